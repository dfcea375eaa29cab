/- Texts joined: MinK, MinL, MinM. No conditions. -/
import Derived.Test.YtnioapinljedmaaMrR
import Derived.Test.YtnioapinljedmaaMrL
/- The law's own examples. No conditions. -/
set_option linter.unusedSimpArgs false
set_option linter.unusedVariables false
namespace Go.Proofs.Ytnioapinljedmaa
open Go Go.Proofs Go.Abs

def lfV (x : Int) : AV := .agg [.int .i64 x, .int .i64 0, .sl [] .full]
structure FrS where
  don : List Int
  own : Abs.Own
  j : AH
def ofG (n : Int) (l : List Int) : Gt := .mk (-1) n (l.map lf)
set_option maxRecDepth 100000 in
theorem of_calls (Γ : Nat → Option (List AV)) (n : Int) (l : List Int) (h : AH) (hl : l.length ≤ 1000000) :
    ACalls Try.prog Γ 61 [.int .i64 n, .sl (encI l) .free] h fun v h' => h' = h ∧ v = encG (ofG n l) := by
  refine ACalls.dropL ?_
  refine acalls_code (rs := [.cell 4 24]) Try.func61 rfl rfl rfl rfl Ty.mixed (by kernel_rfl) ?_
  simp (disch := omega) only [go_sem, seval, encI_len]
  obtain ⟨K, hK⟩ : ∃ K : AV → AH, ∀ v, K v = h ++ [.row [.int .i64 0, .int .i64 0, .sl [] .full] 24, .row [.int .i64 (-1), .int .i64 n, v] 24] := ⟨_, fun _ => rfl⟩
  have Kl : ∀ v, (K v).length = h.length + 2 := fun v => by rw [hK]; simp
  have K1 : ∀ v j, (K v ++ j)[h.length + 1]? = some (.row [.int .i64 (-1), .int .i64 n, v] 24) := fun v j => by rw [hK]; simp
  have K0 : ∀ v j, (K v ++ j)[h.length]? = some (.row [.int .i64 0, .int .i64 0, .sl [] .full] 24) := fun v j => by rw [hK]; simp
  have S1 : ∀ v j v', (K v ++ j).set (h.length + 1) (.row [.int .i64 (-1), .int .i64 n, v'] 24) = K v' ++ j := fun v j v' => by rw [hK, hK]; simp
  have S0 : ∀ v j r, ∃ l, (K v ++ j).set h.length r = h ++ l := fun v j r => by
    rw [hK, List.append_assoc]
    exact ⟨r :: .row [.int .i64 (-1), .int .i64 n, v] 24 :: j, by rw [show h.length = h.length + 0 from rfl, hset_add]; rfl⟩
  have G0 : ∀ v j r, ((K v ++ j).set h.length r)[h.length]? = some r := fun v j r => by rw [List.getElem?_set_self]; simp [Kl]; omega
  refine awp_loopL (β := FrS) l [4, 5, 10, 11, 12] (fun don _ => [(4, .ptr (some (h.length, 0))), (5, .ptr (some (h.length + 1, 0))), (10, .sl (encI l) .free), (11, .int .i64 l.length), (12, .int .i64 don.length)])
    (fun s => K (.sl (s.don.map lfV) s.own) ++ s.j) (fun don _ s => s.don = don ∧ OwnAt (K (.sl (s.don.map lfV) s.own)) s.j s.don.length s.own) ⟨[], .full, []⟩ ?_ (by simp [hK]) ⟨rfl, trivial⟩ Ty.mixed (by kernel_rfl) ?_ ?_
  · simp (disch := omega) only [go_sem, seval]
  · rintro don x r ⟨_, own, j⟩ hd ⟨rfl, ho⟩
    simp only at ho ⊢
    rename_i don
    have hlen : l.length = don.length + (r.length + 1) := by rw [hd]; simp
    have e1 : (encI l)[don.length]? = some (.int .i64 x) := by rw [hd]; simp [encI]
    simp (disch := omega) only [go_sem, seval]
    rw [hlen]
    refine aIf.pos (by omega) ?_
    simp (disch := omega) only [go_sem, seval, e1, K1]
    have hlen2 : don.length + 1 ≤ 1000000 := by omega
    refine aAp_sl (xs := [lfV x]) (by rw [List.length_map]; exact ho) (RowsOK.map (f := lfV) (fun x => ⟨rfl, fun c hc => by simp [lfV, AV.cells] at hc; rcases hc with rfl | rfl | rfl <;> rfl⟩) _) (RowsOK.map (f := lfV) (fun x => ⟨rfl, fun c hc => by simp [lfV, AV.cells] at hc; rcases hc with rfl | rfl | rfl <;> rfl⟩) [x]) (by simp; omega) (by simp; omega) fun j3 own3 ho3 hg => ?_
    simp (disch := omega) only [go_sem, seval, K1, S1]
    refine roundL_next ⟨don ++ [x], own3, j3⟩ ⟨rfl, ?_⟩ ?_ ?_
    · simp only
      rw [List.length_map] at ho3
      cases own3 with
      | full => trivial
      | free => exact ho3.elim
      | arena q => obtain ⟨i', h1, h2⟩ := ho3; exact ⟨i', by rw [h1, Kl, Kl], by simpa using h2⟩
    · simp (disch := omega) only [go_sem, seval, List.length_append]
    · simp
  · rintro ⟨_, own, j⟩ ⟨rfl, ho⟩
    simp only at ho ⊢
    simp (disch := omega) only [go_sem, seval]
    refine AWP.keep [4, 5] (aCode_ok Ty.mixed _ _ _ _ (by kernel_rfl) ?_)
    rename_i dn
    simp (disch := omega) only [go_sem, seval, K1, K0, G0]
    have e : looseL (List.map lfV dn) = dn.map fun x => encG (lf x) := by
      rw [looseL_map, List.map_map]
      refine List.map_congr_left fun x _ => ?_
      simp [lfV, lf, encG_mk, loose, looseL]
    simp only [e, ofG, encG_mk, List.map_map]
    refine ⟨S0 _ _ _, ?_, rfl⟩
    have := of_eq_true (rb_Gs h.length (dn.map lf))
    rwa [List.map_map] at this
theorem sh_of (n : Int) (l : List Int) (h0 : -9223372036854775808 ≤ n ∧ n ≤ 9223372036854775807) (hl : l.length ≤ 1000000) (h : ∀ x ∈ l, 0 ≤ x ∧ x < 1000) : Sh (ofG n l) :=
  .mk (by simp; omega) (fun x hx => by obtain ⟨y, hy, rfl⟩ := List.mem_map.1 hx; have := h y hy; exact sh_lf _ (by omega) (by omega)) (by decide) (by decide) h0.1 h0.2
theorem errN {g : Gt} {b : Bool} {l : List (List Int)} (h : smallR g b = (l, 0)) : errF g = 0 := by
  by_cases he : errF g = 0
  · exact he
  · rw [smallR, if_neg he] at h; exact (Prod.mk.injEq .. ▸ h).2
set_option maxRecDepth 100000 in
theorem are_calls (Γ : Nat → Option (List AV)) (g : Gt) (l m : List (List Int)) (h : AH) (hs : Sh g) (hl : l.length ≤ 1000) (hm : m.length ≤ 1000) (hbl : ∀ s ∈ l, s.length ≤ 1000) (hbm : ∀ s ∈ m, s.length ≤ 1000)
    (e1 : smallR g false = (l, 0)) (e2 : smallR g true = (m, 0)) (e3 : agrF g l m = (true, 0)) :
    ACalls Try.prog Γ 62 [encG g, .sl (encII l) .free, .sl (encII m) .free] h fun v h' => h' = h ∧ v = .bool true := by
  have c1 := fun h => psets_calls Γ g h hs
  have c2 := fun h => pblks_calls Γ g h hs
  have c3 := fun h => pagree_calls Γ g l m h hs (by omega) (by omega) (fun s k => by have := hbl s k; omega) (fun s k => by have := hbm s k; omega)
  have c4 := fun h => same_calls Γ l l h (by omega) (fun s k => by have := hbl s k; omega)
  have c5 := fun h => same_calls Γ m m h (by omega) (fun s k => by have := hbm s k; omega)
  rw [e1, encS] at c1
  rw [e2, encS] at c2
  rw [e3, encA] at c3
  cases g with | mk p n gl =>
  simp only [encG_mk] at c1 c2 c3 ⊢
  refine ACalls.drop ?_
  refine acalls_code (rs := [.tmp 6]) Try.func62 rfl rfl rfl rfl Ty.mixed (by kernel_rfl) ?_
  simp (disch := omega) only [go_sem, seval]
  refine ACalls.det (c1 _) ?_
  simp (disch := omega) only [go_sem, seval]
  refine ACalls.det (c2 _) ?_
  simp (disch := omega) only [go_sem, seval]
  refine ACalls.det (c3 _) ?_
  simp (disch := omega) only [go_sem, seval]
  refine ACalls.det (c4 _) ?_
  simp (disch := omega) only [go_sem, seval]
  refine ACalls.det (c5 _) ?_
  simp (disch := omega) only [go_sem, seval]
structure Ex24 where
  g : Gt
  l : List (List Int)
  m : List (List Int)
def ex24 : List Ex24 := [⟨ofG 2 [1, 2, 3], [[1, 2], [1, 3], [2, 3]], [[1, 2], [1, 3], [2, 3]]⟩, ⟨lf 5, [[5]], [[5]]⟩, ⟨ofG 1 [], [], [[]]⟩, ⟨ofG 2 [1, 2], [[1, 2]], [[1], [2]]⟩, ⟨ofG 1 [1, 2], [[1], [2]], [[1, 2]]⟩, ⟨ofG 2 [1, 1, 2], [[1]], [[1]]⟩]
theorem ex24_facts : ∀ x ∈ ex24, smallR x.g false = (x.l, 0) ∧ smallR x.g true = (x.m, 0) ∧ agrF x.g x.l x.m = (true, 0) ∧ x.l.length ≤ 3 ∧ x.m.length ≤ 3 ∧ (∀ s ∈ x.l, s.length ≤ 3) ∧ ∀ s ∈ x.m, s.length ≤ 3 := by
  have h : (ex24.all fun x => decide (smallR x.g false = (x.l, 0) ∧ smallR x.g true = (x.m, 0) ∧ agrF x.g x.l x.m = (true, 0) ∧ x.l.length ≤ 3 ∧ x.m.length ≤ 3 ∧ (∀ s ∈ x.l, s.length ≤ 3) ∧ ∀ s ∈ x.m, s.length ≤ 3)) = true := by decide +kernel
  intro x hx
  exact of_decide_eq_true (List.all_eq_true.1 h x hx)
theorem sh_ex : ∀ x ∈ ex24, Sh x.g := by
  simp only [ex24, List.mem_cons, List.not_mem_nil, or_false]
  rintro x (rfl | rfl | rfl | rfl | rfl | rfl)
  · exact sh_of _ _ (by decide) (by decide) (by decide)
  · exact sh_lf _ (by decide) (by decide)
  · exact sh_of _ _ (by decide) (by decide) (by decide)
  · exact sh_of _ _ (by decide) (by decide) (by decide)
  · exact sh_of _ _ (by decide) (by decide) (by decide)
  · exact sh_of _ _ (by decide) (by decide) (by decide)
theorem ex_are (Γ : Nat → Option (List AV)) (x : Ex24) (h : AH) (hx : x ∈ ex24) : ACalls Try.prog Γ 62 [encG x.g, .sl (encII x.l) .free, .sl (encII x.m) .free] h fun v h' => h' = h ∧ v = .bool true := by
  obtain ⟨f1, f2, f3, f4, f5, f6, f7⟩ := ex24_facts x hx
  exact are_calls Γ x.g x.l x.m h (sh_ex x hx) (by omega) (by omega) (fun s k => by have := f6 s k; omega) (fun s k => by have := f7 s k; omega) f1 f2 f3
set_option maxRecDepth 100000 in
theorem sane24_calls (Γ : Nat → Option (List AV)) (h : AH) :
    ACalls Try.prog Γ 30 [] h fun v h' => h' = h ∧ v = .bool true := by
  have f1 : agrF (ofG 1 [1, 2]) [[1]] [[1, 2]] = (false, 0) := by decide +kernel
  have f2 : smallR (lf 64) false = ([], 220) := by decide +kernel
  have f3 : smallR (ofG 1 [0, 1, 2, 3, 4, 5, 6, 7, 8, 9, 10, 11, 12]) true = ([], 2) := by decide +kernel
  have c1 := fun h => pagree_calls Γ (ofG 1 [1, 2]) [[1]] [[1, 2]] h (sh_of _ _ (by decide) (by decide) (by decide)) (by decide) (by decide) (by decide) (by decide)
  have c2 := fun h => psets_calls Γ (lf 64) h (sh_lf _ (by decide) (by decide))
  have c3 := fun h => pblks_calls Γ (ofG 1 [0, 1, 2, 3, 4, 5, 6, 7, 8, 9, 10, 11, 12]) h (sh_of _ _ (by decide) (by decide) (by decide))
  rw [f1, encA] at c1
  rw [f2, encS] at c2
  rw [f3, encS] at c3
  refine ACalls.drop ?_
  refine acalls_code (rs := [.tmp 0]) Try.func30 rfl rfl rfl rfl Ty.mixed (by kernel_rfl) ?_
  simp (disch := omega) only [go_sem, seval]
  refine ACalls.det (ACalls.ofLoose (of_calls Γ 1 [1, 2] _ (by decide)) (by simp [looseL, loose, encI])) ?_
  simp (disch := omega) only [go_sem, seval]
  refine ACalls.det (ACalls.ofLoose (c1 _) (by simp [looseL, loose, encI, encII, loose_G])) ?_
  simp (disch := omega) only [go_sem, seval]
  refine ACalls.det (ACalls.ofLoose (c2 _) (by simp [looseL, loose, lf, encG_mk])) ?_
  simp (disch := omega) only [go_sem, seval]
  refine ACalls.det (ACalls.ofLoose (of_calls Γ 1 [0, 1, 2, 3, 4, 5, 6, 7, 8, 9, 10, 11, 12] _ (by decide)) (by simp [looseL, loose, encI])) ?_
  simp (disch := omega) only [go_sem, seval]
  refine ACalls.det (c3 _) ?_
  simp (disch := omega) only [go_sem, seval]
  refine ACalls.det (ACalls.ofLoose (of_calls Γ 2 [1, 2, 3] _ (by decide)) (by simp [looseL, loose, encI])) ?_
  simp (disch := omega) only [go_sem, seval]
  refine ACalls.det (ACalls.ofLoose (ex_are Γ ⟨ofG 2 [1, 2, 3], [[1, 2], [1, 3], [2, 3]], [[1, 2], [1, 3], [2, 3]]⟩ _ (by simp [ex24])) (by simp [looseL, loose, encI, encII, loose_G])) ?_
  simp (disch := omega) only [go_sem, seval]
  refine ACalls.det (ACalls.ofLoose (ex_are Γ ⟨lf 5, [[5]], [[5]]⟩ _ (by simp [ex24])) (by simp [looseL, loose, encI, encII, lf, encG_mk])) ?_
  simp (disch := omega) only [go_sem, seval]
  refine ACalls.det (ACalls.ofLoose (of_calls Γ 1 [] _ (by decide)) (by simp [looseL, loose, encI])) ?_
  simp (disch := omega) only [go_sem, seval]
  refine ACalls.det (ACalls.ofLoose (ex_are Γ ⟨ofG 1 [], [], [[]]⟩ _ (by simp [ex24])) (by simp [looseL, loose, encI, encII, loose_G])) ?_
  simp (disch := omega) only [go_sem, seval]
  refine ACalls.det (ACalls.ofLoose (of_calls Γ 2 [1, 2] _ (by decide)) (by simp [looseL, loose, encI])) ?_
  simp (disch := omega) only [go_sem, seval]
  refine ACalls.det (ACalls.ofLoose (ex_are Γ ⟨ofG 2 [1, 2], [[1, 2]], [[1], [2]]⟩ _ (by simp [ex24])) (by simp [looseL, loose, encI, encII, loose_G])) ?_
  simp (disch := omega) only [go_sem, seval]
  refine ACalls.det (ACalls.ofLoose (of_calls Γ 1 [1, 2] _ (by decide)) (by simp [looseL, loose, encI])) ?_
  simp (disch := omega) only [go_sem, seval]
  refine ACalls.det (ACalls.ofLoose (ex_are Γ ⟨ofG 1 [1, 2], [[1], [2]], [[1, 2]]⟩ _ (by simp [ex24])) (by simp [looseL, loose, encI, encII, loose_G])) ?_
  simp (disch := omega) only [go_sem, seval]
  refine ACalls.det (ACalls.ofLoose (of_calls Γ 2 [1, 1, 2] _ (by decide)) (by simp [looseL, loose, encI])) ?_
  simp (disch := omega) only [go_sem, seval]
  refine ACalls.det (ACalls.ofLoose (ex_are Γ ⟨ofG 2 [1, 1, 2], [[1]], [[1]]⟩ _ (by simp [ex24])) (by simp [looseL, loose, encI, encII, loose_G])) ?_
  simp (disch := omega) only [go_sem, seval]
  done
end Go.Proofs.Ytnioapinljedmaa

/- The laws MinimalSpec and MinimalAgreeSpec: the code. No conditions. -/
set_option linter.unusedSimpArgs false
set_option linter.unusedVariables false
namespace Go.Proofs.Ytnioapinljedmaa
open Go Go.Proofs Go.Abs

theorem small_le (g : Gt) (b : Bool) : (smallR g b).1.length ≤ 256 := by
  rw [smallR]
  split
  · split
    · simp
    · simp only; omega
  · simp
theorem small_in {g : Gt} {b : Bool} {s : List Int} (h : s ∈ (smallR g b).1) : s.length ≤ 12 := by
  rw [smallR] at h
  split at h
  · rename_i he
    obtain ⟨hck, _, hn⟩ := errF_facts he
    split at h
    · simp at h
    · have := ((mem_mins (ppl_lt hck) s).1 h).1.length_le; omega
  · simp at h
set_option maxRecDepth 100000 in
theorem minSpec_calls (Γ : Nat → Option (List AV)) (g : Gt) (h : AH) (hs : Sh g) :
    ACalls Try.prog Γ 8 [encG g] h fun v h' => h' = h ∧ v = .bool true := by
  have c1 := fun h => few24_calls Γ g h hs
  have c2 := fun h => psets_calls Γ g h hs
  have c3 := fun h => rsets_calls Γ g h hs
  have c4 := fun h => pblks_calls Γ g h hs
  have c5 := fun h => rblks_calls Γ g h hs
  have l1 := small_le g false
  have l2 := small_le g true
  have c6 := fun h => same_calls Γ (smallR g false).1 (smallR g false).1 h (by omega) (fun s k => by have := small_in k; omega)
  have c7 := fun h => same_calls Γ (smallR g true).1 (smallR g true).1 h (by omega) (fun s k => by have := small_in k; omega)
  rw [encS] at c2 c3 c4 c5
  cases g with | mk p n gl =>
  simp only [encG_mk] at c1 c2 c3 c4 c5 ⊢
  refine ACalls.drop ?_
  refine acalls_code (rs := [.tmp 2]) Try.func8 rfl rfl rfl rfl Ty.mixed (by kernel_rfl) ?_
  simp (disch := omega) only [go_sem, seval]
  refine ACalls.det (sane24_calls Γ _) ?_
  simp (disch := omega) only [go_sem, seval]
  refine ACalls.det (c1 _) ?_
  simp (disch := omega) only [go_sem, seval]
  cases few24F (.mk p n gl) with
  | false => simp (disch := omega) only [go_sem, seval]
  | true =>
  simp (disch := omega) only [go_sem, seval]
  refine ACalls.det (c2 _) ?_
  simp (disch := omega) only [go_sem, seval]
  refine ACalls.det (c3 _) ?_
  simp (disch := omega) only [go_sem, seval]
  refine ACalls.det (c4 _) ?_
  simp (disch := omega) only [go_sem, seval]
  refine ACalls.det (c5 _) ?_
  simp (disch := omega) only [go_sem, seval]
  refine ACalls.det (c6 _) ?_
  simp (disch := omega) only [go_sem, seval]
  refine ACalls.det (c7 _) ?_
  simp (disch := omega) only [go_sem, seval]
set_option maxRecDepth 100000 in
theorem minAgree_calls (Γ : Nat → Option (List AV)) (g : Gt) (l m : List (List Int)) (h : AH) (hs : Sh g) (hl : l.length ≤ 9223372036854775807) (hm : m.length ≤ 9223372036854775807) :
    ACalls Try.prog Γ 9 [encG g, .sl (encII l) .free, .sl (encII m) .free] h fun v h' => h' = h ∧ v = .bool true := by
  have c1 := fun h => few24_calls Γ g h hs
  have c2 := fun h => fewsets_calls Γ l h hl
  have c3 := fun h => fewsets_calls Γ m h hm
  have facts : ∀ l, fewF l = true → l.length ≤ 40 ∧ ∀ s ∈ l, s.length ≤ 12 := fun l e => by
    simp only [fewF, Bool.and_eq_true, List.all_eq_true, decide_eq_true_eq] at e
    exact ⟨e.2, e.1⟩
  have c4 := fun h (f1 : fewF l = true) (f2 : fewF m = true) => pagree_calls Γ g l m h hs (by have := (facts l f1).1; omega) (by have := (facts m f2).1; omega) (fun s k => by have := (facts l f1).2 s k; omega) (fun s k => by have := (facts m f2).2 s k; omega)
  have c5 := fun h (f1 : fewF l = true) (f2 : fewF m = true) => ragree_calls Γ g l m h hs (by have := (facts l f1).1; omega) (by have := (facts m f2).1; omega) (fun s k => by have := (facts l f1).2 s k; omega) (fun s k => by have := (facts m f2).2 s k; omega)
  rw [encA] at c4 c5
  cases g with | mk p n gl =>
  simp only [encG_mk] at c1 c4 c5 ⊢
  refine ACalls.drop ?_
  refine acalls_code (rs := [.tmp 6]) Try.func9 rfl rfl rfl rfl Ty.mixed (by kernel_rfl) ?_
  simp (disch := omega) only [go_sem, seval]
  refine ACalls.det (sane24_calls Γ _) ?_
  simp (disch := omega) only [go_sem, seval]
  refine ACalls.det (c1 _) ?_
  simp (disch := omega) only [go_sem, seval]
  cases few24F (.mk p n gl) with
  | false => simp (disch := omega) only [go_sem, seval]
  | true =>
  simp (disch := omega) only [go_sem, seval]
  refine ACalls.det (c2 _) ?_
  simp (disch := omega) only [go_sem, seval]
  cases hf1 : fewF l with
  | false => simp (disch := omega) only [go_sem, seval]
  | true =>
  simp (disch := omega) only [go_sem, seval]
  refine ACalls.det (c3 _) ?_
  simp (disch := omega) only [go_sem, seval]
  cases hf2 : fewF m with
  | false => simp (disch := omega) only [go_sem, seval]
  | true =>
  simp (disch := omega) only [go_sem, seval]
  refine ACalls.det (c4 _ hf1 hf2) ?_
  simp (disch := omega) only [go_sem, seval]
  refine ACalls.det (c5 _ hf1 hf2) ?_
  simp (disch := omega) only [go_sem, seval]
end Go.Proofs.Ytnioapinljedmaa

/- The law MinimalBoth: the code. No conditions. -/
set_option linter.unusedSimpArgs false
set_option linter.unusedVariables false
namespace Go.Proofs.Ytnioapinljedmaa
open Go Go.Proofs Go.Abs

/-- Is a formula looked at? -/
def useF (g : Gt) : Bool := smallF g && decide (errF g = 0) && decide ((setsF g).length ≤ 256) && decide ((blksF g).length ≤ 256)
structure UseOK (g : Gt) : Prop where
  e : errF g = 0
  c : checkF g = 0
  lv : allLeaves g ≤ 256
  n : (pplF g).length ≤ 12
  p : (pplF g).Pairwise (· < ·)
  s : (setsF g).length ≤ 256
  b : (blksF g).length ≤ 256
theorem use_ok {g : Gt} (h : useF g = true) : UseOK g := by
  simp only [useF, Bool.and_eq_true, decide_eq_true_eq] at h
  obtain ⟨⟨⟨h1, h2⟩, h3⟩, h4⟩ := h
  obtain ⟨k1, k2, k3⟩ := errF_facts h2
  exact ⟨h2, k1, k2, k3, ppl_lt k1, h3, h4⟩
theorem sets_in {g : Gt} (h : UseOK g) {s : List Int} (hs : s ∈ setsF g) : s.Sublist (pplF g) ∧ s.length ≤ 12 := by
  have h1 := ((mem_mins h.p s).1 hs).1
  exact ⟨h1, by have := h1.length_le; have := h.n; omega⟩
theorem blks_in {g : Gt} (h : UseOK g) {s : List Int} (hs : s ∈ blksF g) : s.Sublist (pplF g) ∧ s.length ≤ 12 := by
  have h1 := ((mem_mins h.p s).1 hs).1
  exact ⟨h1, by have := h1.length_le; have := h.n; omega⟩
def listsV (g : Gt) : AV := if useF g then .tuple [.sl (encII (setsF g)) .free, .sl (encII (blksF g)) .free, .bool true, .bool true] else .tuple [.sl [] .free, .sl [] .free, .bool false, .bool true]
set_option maxRecDepth 100000 in
theorem lists_calls (Γ : Nat → Option (List AV)) (g : Gt) (h : AH) (hs : Sh g) :
    ACalls Try.prog Γ 40 [encG g] h fun v h' => h' = h ∧ v = listsV g := by
  have c1 := fun h => small_calls Γ g h hs
  have c2 := fun h => err_calls Γ g h hs
  have c3 := fun h => psets_calls Γ g h hs
  have c4 := fun h => pblks_calls Γ g h hs
  rw [encS] at c3 c4
  rw [listsV]
  generalize hsm : smallF g = b1 at c1
  by_cases he : errF g = 0
  · have e3 : smallR g false = (if 256 < (setsF g).length then ([], 2) else (setsF g, 0)) := by rw [smallR, if_pos he]; rfl
    have e4 : smallR g true = (if 256 < (blksF g).length then ([], 2) else (blksF g, 0)) := by rw [smallR, if_pos he]; rfl
    rw [e3] at c3
    rw [e4] at c4
    rw [useF, hsm, decide_eq_true he]
    cases g with | mk p n gl =>
    generalize hG : (Gt.mk p n gl) = G at *
    have eG : encG G = .agg [.int .i64 p, .int .i64 n, .sl (gl.map encG) .free] := by rw [← hG, encG_mk]
    rw [eG] at c1 c2 c3 c4 ⊢
    rw [he] at c2
    refine ACalls.dropL ?_
    refine acalls_code (rs := [.tmp 2, .tmp 3, .tmp 4, .tmp 5]) Try.func40 rfl rfl rfl rfl Ty.mixed (by kernel_rfl) ?_
    simp (disch := omega) only [go_sem, seval]
    refine ACalls.det (c1 _) ?_
    simp (disch := omega) only [go_sem, seval]
    cases b1 with
    | false => simp (disch := omega) only [go_sem, seval]
    | true =>
    simp (disch := omega) only [go_sem, seval]
    refine ACalls.det (c2 _) ?_
    simp (disch := omega) only [go_sem, seval]
    by_cases h1 : 256 < (setsF G).length
    · rw [if_pos h1] at c3
      rw [decide_eq_false (show ¬ (setsF G).length ≤ 256 by omega)]
      refine ACalls.det (c3 _) ?_
      simp (disch := omega) only [go_sem, seval]
      refine ACalls.det (c4 _) ?_
      simp (disch := omega) only [go_sem, seval]
    rw [if_neg h1] at c3
    rw [decide_eq_true (show (setsF G).length ≤ 256 by omega)]
    refine ACalls.det (c3 _) ?_
    simp (disch := omega) only [go_sem, seval]
    by_cases h2 : 256 < (blksF G).length
    · rw [if_pos h2] at c4
      rw [decide_eq_false (show ¬ (blksF G).length ≤ 256 by omega)]
      refine ACalls.det (c4 _) ?_
      simp (disch := omega) only [go_sem, seval]
    rw [if_neg h2] at c4
    rw [decide_eq_true (show (blksF G).length ≤ 256 by omega)]
    refine ACalls.det (c4 _) ?_
    simp (disch := omega) only [go_sem, seval]
  · rw [useF, hsm, decide_eq_false he]
    cases g with | mk p n gl =>
    generalize hG : (Gt.mk p n gl) = G at *
    have eG : encG G = .agg [.int .i64 p, .int .i64 n, .sl (gl.map encG) .free] := by rw [← hG, encG_mk]
    rw [eG] at c1 c2 ⊢
    refine ACalls.dropL ?_
    refine acalls_code (rs := [.tmp 2, .tmp 3, .tmp 4, .tmp 5]) Try.func40 rfl rfl rfl rfl Ty.mixed (by kernel_rfl) ?_
    simp (disch := omega) only [go_sem, seval]
    refine ACalls.det (c1 _) ?_
    simp (disch := omega) only [go_sem, seval]
    cases b1 with
    | false => simp (disch := omega) only [go_sem, seval]
    | true =>
    simp (disch := omega) only [go_sem, seval]
    refine ACalls.det (c2 _) ?_
    simp (disch := omega) only [go_sem, seval]
    refine aIf.neg he ?_
    simp (disch := omega) only [go_sem, seval]
set_option maxRecDepth 100000 in
theorem minBoth_calls (Γ : Nat → Option (List AV)) (g : Gt) (a b : List (List Int)) (h : AH) (hs : Sh g) (ha : a.length ≤ 9223372036854775807) (hb : b.length ≤ 9223372036854775807) (ha2 : ∀ s ∈ a, s.length ≤ 9223372036854775807) (hb2 : ∀ s ∈ b, s.length ≤ 9223372036854775807) :
    ACalls Try.prog Γ 10 [encG g, .sl (encII a) .free, .sl (encII b) .free] h fun v h' => h' = h ∧ v = .bool true := by
  have c1 := fun h => lists_calls Γ g h hs
  rw [listsV] at c1
  cases hu : useF g with
  | false =>
    rw [hu] at c1
    cases g with | mk p n gl =>
    simp only [encG_mk, Bool.false_eq_true, if_false] at c1 ⊢
    refine ACalls.drop ?_
    refine acalls_code (rs := [.tmp 6]) Try.func10 rfl rfl rfl rfl Ty.mixed (by kernel_rfl) ?_
    simp (disch := omega) only [go_sem, seval]
    refine ACalls.det (sane24_calls Γ _) ?_
    simp (disch := omega) only [go_sem, seval]
    refine ACalls.det (c1 _) ?_
    simp (disch := omega) only [go_sem, seval]
  | true =>
    have hok := use_ok hu
    rw [hu, if_pos rfl] at c1
    have c2 := fun h => pagree_calls Γ g (setsF g) (blksF g) h hs (by have := hok.s; omega) (by have := hok.b; omega) (fun s k => by have := (sets_in hok k).2; omega) (fun s k => by have := (blks_in hok k).2; omega)
    have c3 := fun h (k1 : a.length ≤ 300) (k2 : b.length ≤ 300) => pagree_calls Γ g a b h hs (by omega) (by omega) ha2 hb2
    have c4 := fun h => same_calls Γ a (setsF g) h ha ha2
    have c5 := fun h => same_calls Γ b (blksF g) h hb hb2
    rw [agree_iff hok.e, encA] at c2 c3
    rw [decide_eq_true (show setsF g = setsF g ∧ blksF g = blksF g from ⟨rfl, rfl⟩)] at c2
    rw [Bool.decide_and] at c3
    generalize decide (a = setsF g) = b1 at c3 c4
    generalize decide (b = blksF g) = b2 at c3 c5
    cases g with | mk p n gl =>
    simp only [encG_mk] at c1 c2 c3 ⊢
    refine ACalls.drop ?_
    refine acalls_code (rs := [.tmp 6]) Try.func10 rfl rfl rfl rfl Ty.mixed (by kernel_rfl) ?_
    simp (disch := omega) only [go_sem, seval]
    refine ACalls.det (sane24_calls Γ _) ?_
    simp (disch := omega) only [go_sem, seval]
    refine ACalls.det (c1 _) ?_
    simp (disch := omega) only [go_sem, seval, encII_len]
    refine aIf.intro (fun h1 => ?_) (fun h1 => ?_)
    · simp (disch := omega) only [go_sem, seval]
    simp (disch := omega) only [go_sem, seval, encII_len]
    refine aIf.intro (fun h2 => ?_) (fun h2 => ?_)
    · simp (disch := omega) only [go_sem, seval]
    simp (disch := omega) only [go_sem, seval, encII_len]
    refine ACalls.det (c2 _) ?_
    simp (disch := omega) only [go_sem, seval]
    refine ACalls.det (c3 _ (by omega) (by omega)) ?_
    simp (disch := omega) only [go_sem, seval]
    refine ACalls.det (c4 _) ?_
    simp (disch := omega) only [go_sem, seval]
    cases b1 with
    | false => simp (disch := omega) only [go_sem, seval]
    | true =>
      simp (disch := omega) only [go_sem, seval]
      refine ACalls.det (c5 _) ?_
      simp (disch := omega) only [go_sem, seval]
end Go.Proofs.Ytnioapinljedmaa
