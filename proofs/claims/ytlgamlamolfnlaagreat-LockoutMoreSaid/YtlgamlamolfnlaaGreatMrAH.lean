/- Texts joined: LokO, LokR. No conditions. -/
import Derived.Test.YtlgamlamolfnlaaGreatMrAG
import Derived.Test.YtlgamlamolfnlaaGreatMrS
/- The law's own functions (lockout): gates of people, within, locks. No conditions. -/
set_option linter.unusedSimpArgs false
set_option linter.unusedVariables false
namespace Go.Proofs.YtlgamlamolfnlaaGreat
open Go Go.Proofs Go.Abs

set_option maxRecDepth 100000 in
theorem of26_calls (Γ : Nat → Option (List AV)) (n : Int) (l : List Int) (h : AH) (hl : l.length ≤ 1000000) :
    ACalls Tryz.prog Γ 25 [.int .i64 n, .sl (encI l) .free] h fun v h' => h' = h ∧ v = encG (ofG n l) := by
  refine ACalls.dropL ?_
  refine acalls_code (rs := [.cell 4 24]) Tryz.func25 rfl rfl rfl rfl Ty.mixed (by kernel_rfl) ?_
  simp (disch := omega) only [go_sem, seval, encI_len]
  obtain ⟨K, hK⟩ : ∃ K : AV → AH, ∀ v, K v = h ++ [.row [.int .i64 0, .int .i64 0, .sl [] .full] 24, .row [.int .i64 (-1), .int .i64 n, v] 24] := ⟨_, fun _ => rfl⟩
  have Kl : ∀ v, (K v).length = h.length + 2 := fun v => by rw [hK]; simp
  have K1 : ∀ v j, (K v ++ j)[h.length + 1]? = some (.row [.int .i64 (-1), .int .i64 n, v] 24) := fun v j => by rw [hK]; simp
  have K0 : ∀ v j, (K v ++ j)[h.length]? = some (.row [.int .i64 0, .int .i64 0, .sl [] .full] 24) := fun v j => by rw [hK]; simp
  have S1 : ∀ v j v', (K v ++ j).set (h.length + 1) (.row [.int .i64 (-1), .int .i64 n, v'] 24) = K v' ++ j := fun v j v' => by rw [hK, hK]; simp
  have S0 : ∀ v j r, ∃ l, (K v ++ j).set h.length r = h ++ l := fun v j r => by
    rw [hK, List.append_assoc]
    exact ⟨r :: .row [.int .i64 (-1), .int .i64 n, v] 24 :: j, by rw [show h.length = h.length + 0 from rfl, hset_add]; rfl⟩
  have G0 : ∀ v j r, ((K v ++ j).set h.length r)[h.length]? = some r := fun v j r => by rw [List.getElem?_set_self]; simp [Kl]; omega
  refine awp_loopL (β := FrS) l [4, 5, 10, 11, 12] (fun don _ => [(4, .ptr (some (h.length, 0))), (5, .ptr (some (h.length + 1, 0))), (10, .sl (encI l) .free), (11, .int .i64 l.length), (12, .int .i64 don.length)])
    (fun s => K (.sl (s.don.map lfV) s.own) ++ s.j) (fun don _ s => s.don = don ∧ OwnAt (K (.sl (s.don.map lfV) s.own)) s.j s.don.length s.own) ⟨[], .full, []⟩ ?_ (by simp [hK]) ⟨rfl, trivial⟩ Ty.mixed (by kernel_rfl) ?_ ?_
  · simp (disch := omega) only [go_sem, seval]
  · rintro don x r ⟨_, own, j⟩ hd ⟨rfl, ho⟩
    simp only at ho ⊢
    rename_i don
    have hlen : l.length = don.length + (r.length + 1) := by rw [hd]; simp
    have e1 : (encI l)[don.length]? = some (.int .i64 x) := by rw [hd]; simp [encI]
    simp (disch := omega) only [go_sem, seval]
    rw [hlen]
    refine aIf.pos (by omega) ?_
    simp (disch := omega) only [go_sem, seval, e1, K1]
    have hlen2 : don.length + 1 ≤ 1000000 := by omega
    refine aAp_sl (xs := [lfV x]) (by rw [List.length_map]; exact ho) (RowsOK.map (f := lfV) (fun x => ⟨rfl, fun c hc => by simp [lfV, AV.cells] at hc; rcases hc with rfl | rfl | rfl <;> rfl⟩) _) (RowsOK.map (f := lfV) (fun x => ⟨rfl, fun c hc => by simp [lfV, AV.cells] at hc; rcases hc with rfl | rfl | rfl <;> rfl⟩) [x]) (by simp; omega) (by simp; omega) fun j3 own3 ho3 hg => ?_
    simp (disch := omega) only [go_sem, seval, K1, S1]
    refine roundL_next ⟨don ++ [x], own3, j3⟩ ⟨rfl, ?_⟩ ?_ ?_
    · simp only
      rw [List.length_map] at ho3
      cases own3 with
      | full => trivial
      | free => exact ho3.elim
      | arena q => obtain ⟨i', h1, h2⟩ := ho3; exact ⟨i', by rw [h1, Kl, Kl], by simpa using h2⟩
    · simp (disch := omega) only [go_sem, seval, List.length_append]
    · simp
  · rintro ⟨_, own, j⟩ ⟨rfl, ho⟩
    simp only at ho ⊢
    simp (disch := omega) only [go_sem, seval]
    refine AWP.keep [4, 5] (aCode_ok Ty.mixed _ _ _ _ (by kernel_rfl) ?_)
    rename_i dn
    simp (disch := omega) only [go_sem, seval, K1, K0, G0]
    have e : looseL (List.map lfV dn) = dn.map fun x => encG (lf x) := by
      rw [looseL_map, List.map_map]
      refine List.map_congr_left fun x _ => ?_
      simp [lfV, lf, encG_mk, loose, looseL]
    simp only [e, ofG, encG_mk, List.map_map]
    refine ⟨S0 _ _ _, ?_, rfl⟩
    have := of_eq_true (rb_Gs h.length (dn.map lf))
    rwa [List.map_map] at this
set_option maxRecDepth 100000 in
theorem within_calls (Γ : Nat → Option (List AV)) (l m : List Int) (h : AH) (hl : l.length ≤ 9223372036854775807) (hm : m.length ≤ 9223372036854775807) :
    ACalls Tryz.prog Γ 24 [.sl (encI l) .free, .sl (encI m) .free] h fun v h' => h' = h ∧ v = .bool (decide (∀ x ∈ l, x ∈ m)) := by
  refine ACalls.drop ?_
  refine acalls_code (rs := [.tmp 4]) Tryz.func24 rfl rfl rfl rfl Ty.mixed (by kernel_rfl) ?_
  simp (disch := omega) only [go_sem, seval, encI_len]
  refine awp_loopL (β := Unit) l [1, 10, 11, 12] (fun don _ => [(1, .sl (encI m) .free), (10, .sl (encI l) .free), (11, .int .i64 l.length), (12, .int .i64 don.length)]) (fun _ => h) (fun don _ _ => ∀ x ∈ don, x ∈ m) () ?_ rfl (by simp) Ty.mixed (by kernel_rfl) ?_ ?_
  · simp (disch := omega) only [go_sem, seval]
  · rintro don x r _ hl0 hd
    have hl3 : don.length + 1 + r.length = l.length := by rw [hl0]; simp; omega
    have e1 : (encI l)[don.length]? = some (.int .i64 x) := by rw [hl0]; simp [encI]
    simp (disch := omega) only [go_sem, seval, encI_len]
    refine aIf.pos (by omega) ?_
    simp (disch := omega) only [go_sem, seval, encI_len, e1]
    refine awp_loopL (β := Unit) m [1, 6, 7, 10, 11, 12, 16, 17, 18] (fun dm _ => [(1, .sl (encI m) .free), (6, .int .i64 x), (7, .bool (decide (x ∈ dm))), (10, .sl (encI l) .free), (11, .int .i64 l.length), (12, .int .i64 don.length), (16, .sl (encI m) .free), (17, .int .i64 m.length), (18, .int .i64 dm.length)]) (fun _ => h) (fun _ _ _ => True) () ?_ rfl trivial Ty.mixed (by kernel_rfl) ?_ ?_
    · simp (disch := omega) only [go_sem, seval, encI_len]
      rfl
    · rintro dm y rm _ hm0 _
      have hl4 : dm.length + 1 + rm.length = m.length := by rw [hm0]; simp; omega
      have e2 : (encI m)[dm.length]? = some (.int .i64 y) := by rw [hm0]; simp [encI]
      simp (disch := omega) only [go_sem, seval, encI_len]
      refine aIf.pos (by omega) ?_
      simp (disch := omega) only [go_sem, seval, encI_len, e2]
      refine aIf.intro (fun h1 => ?_) (fun h1 => ?_) <;> simp (disch := omega) only [go_sem, seval]
      · refine roundL_next () trivial ?_ rfl
        simp (disch := omega) only [go_sem, seval, List.length_append]
        rw [decide_eq_true (show x ∈ dm ++ [y] by simp [h1])]
      · refine roundL_next () trivial ?_ rfl
        simp (disch := omega) only [go_sem, seval, List.length_append]
        have e : decide (x ∈ dm ++ [y]) = decide (x = y) := decide_eq_decide.2 (by simp [h1])
        rw [e]
    · intro _ _
      simp (disch := omega) only [go_sem, seval, encI_len]
      refine AWP.keep [1, 7, 10, 11, 12] (aCode_ok Ty.mixed _ _ _ _ (by kernel_rfl) ?_)
      simp (disch := omega) only [go_sem, seval]
      refine aIf.intro (fun h1 => ?_) (fun h1 => ?_) <;> simp (disch := omega) only [go_sem, seval]
      · refine AWP.keep [1, 10, 11, 12] (aCode_ok Ty.mixed _ _ _ _ (by kernel_rfl) ?_)
        simp (disch := omega) only [go_sem, seval]
        refine roundL_next () ?_ ?_ rfl
        · intro y hy
          rcases List.mem_append.1 hy with hy | hy
          · exact hd y hy
          · rw [List.mem_singleton] at hy; subst hy; exact h1
        · simp (disch := omega) only [go_sem, seval, List.length_append]
      · rw [decide_eq_false (fun e => h1 (e x (by rw [hl0]; simp)))]
  · intro _ hd
    simp (disch := omega) only [go_sem, seval, encI_len]
    refine AWP.keep [] (aCode_ok Ty.mixed _ _ _ _ (by kernel_rfl) ?_)
    simp (disch := omega) only [go_sem, seval]
    rw [decide_eq_true hd]
set_option maxRecDepth 100000 in
theorem locks26_calls (Γ : Nat → Option (List AV)) (g : Gt) (most : Int) (w : List Int) (h : AH) (hs : Sh g) (hw : w.length ≤ 1000) (hR : lockR g most = (w, true, 0)) :
    ACalls Tryz.prog Γ 26 [encG g, .int .i64 most, .sl (encI w) .free] h fun v h' => h' = h ∧ v = .bool true := by
  have c0 := fun h => lockout_calls Γ g most h hs
  have c1 := fun h => sameI26_calls Γ w w h (by omega)
  rw [hR, encLk] at c0
  rw [decide_eq_true rfl] at c1
  cases g with | mk p n gl =>
  simp only [encG_mk] at c0 ⊢
  refine ACalls.drop ?_
  refine acalls_code (rs := [.tmp 6]) Tryz.func26 rfl rfl rfl rfl Ty.mixed (by kernel_rfl) ?_
  simp (disch := omega) only [go_sem, seval]
  refine ACalls.det (c0 _) ?_
  simp (disch := omega) only [go_sem, seval]
  refine ACalls.det (c1 _) ?_
  simp (disch := omega) only [go_sem, seval]
end Go.Proofs.YtlgamlamolfnlaaGreat

/- The law's examples (lockout). No conditions. -/
set_option linter.unusedSimpArgs false
set_option linter.unusedVariables false
namespace Go.Proofs.YtlgamlamolfnlaaGreat
open Go Go.Proofs Go.Abs

def four26 : Gt := ofG 2 [0, 1, 2, 3]
def six26 : List (List Int) := [[2, 3], [1, 3], [1, 2], [0, 3], [0, 2], [0, 1]]
def bad26 : List (List Int) := [[2, 3], [1, 3], [1, 2], [0, 3], [0, 2], [0, 2]]
theorem facts26 : lockR (lf 3) 0 = ([], false, 0) ∧ safeR (lf 3) 0 = ([], true, 0) ∧ safeR four26 2 = (six26, true, 0) ∧ lockR four26 2 = ([], false, 0) ∧ accR four26 2 six26 = (true, 0) ∧ accR four26 2 bad26 = (false, 0)
    ∧ lockR four26 (-1) = ([], false, 1) ∧ lockR (ofG 0 []) 1 = ([], false, 220) ∧ lockR (lf 3) 1 = ([3], true, 0) ∧ lockR (ofG 2 [0, 1, 2]) 2 = ([0, 1], true, 0) := by decide +kernel
set_option maxHeartbeats 800000 in
set_option maxRecDepth 100000 in
theorem sane26_calls (Γ : Nat → Option (List AV)) (h : AH) :
    ACalls Tryz.prog Γ 8 [] h fun v h' => h' = h ∧ v = .bool true := by
  obtain ⟨f1, f2, f3, f4, f5, f6, f7, f8, f9, f10⟩ := facts26
  have s3 : Sh (lf 3) := sh_lf _ (by decide) (by decide)
  have s4 : Sh four26 := sh_of _ _ (by decide) (by decide) (by decide)
  have c1 := fun h => lockout_calls Γ (lf 3) 0 h s3
  have c2 := fun h => safe26_calls Γ (lf 3) 0 h s3
  have c3 := fun h => safe26_calls Γ four26 2 h s4
  have c4 := fun h => lockout_calls Γ four26 2 h s4
  have c5 := fun h => accepts_calls Γ four26 2 six26 h s4 (by decide) (by decide)
  have c6 := fun h => accepts_calls Γ four26 2 bad26 h s4 (by decide) (by decide)
  have c7 := fun h => lockout_calls Γ four26 (-1) h s4
  have c8 := fun h => lockout_calls Γ (ofG 0 []) 1 h (sh_of _ _ (by decide) (by decide) (by decide))
  have c9 := fun h => locks26_calls Γ (lf 3) 1 [3] h s3 (by decide) f9
  have c10 := fun h => locks26_calls Γ (ofG 2 [0, 1, 2]) 2 [0, 1] h (sh_of _ _ (by decide) (by decide) (by decide)) (by decide) f10
  have c11 := fun h => sameL26_calls Γ six26 six26 h (by decide) (by decide)
  rw [f1, encLk] at c1
  rw [f2, encSf] at c2
  rw [f3, encSf] at c3
  rw [f4, encLk] at c4
  rw [f5, encAc] at c5
  rw [f6, encAc] at c6
  rw [f7, encLk] at c7
  rw [f8, encLk] at c8
  rw [decide_eq_true rfl] at c11
  obtain ⟨GL, hGL⟩ : ∃ GL : List AV, GL = ([0, 1, 2, 3].map lf).map encG := ⟨_, rfl⟩
  have e4 : encG four26 = .agg [.int .i64 (-1), .int .i64 2, .sl GL .free] := by rw [four26, ofG, encG_mk, hGL]
  have c0 := fun h => of26_calls Γ 2 [0, 1, 2, 3] h (by decide)
  rw [show ofG 2 [0, 1, 2, 3] = four26 from rfl] at c0
  rw [e4] at c0 c3 c4 c5 c6 c7
  refine ACalls.drop ?_
  refine acalls_code (rs := [.tmp 0]) Tryz.func8 rfl rfl rfl rfl Ty.mixed (by kernel_rfl) ?_
  simp (disch := omega) only [go_sem, seval]
  refine ACalls.det (ACalls.ofLoose (c0 _) (by simp [looseL, loose, encI])) ?_
  simp (disch := omega) only [go_sem, seval]
  refine ACalls.det (ACalls.ofLoose (c1 _) (by simp [looseL, loose, lf, encG_mk])) ?_
  simp (disch := omega) only [go_sem, seval]
  refine ACalls.det (ACalls.ofLoose (c2 _) (by simp [looseL, loose, lf, encG_mk])) ?_
  simp (disch := omega) only [go_sem, seval]
  refine ACalls.det (c3 _) ?_
  simp (disch := omega) only [go_sem, seval]
  refine ACalls.det (c4 _) ?_
  simp (disch := omega) only [go_sem, seval]
  have hLG : looseL GL = GL := by rw [hGL, loose_Gs]
  refine ACalls.det (ACalls.ofLoose (c5 _) (by simp [looseL, loose, encI, encII, six26, hLG])) ?_
  simp (disch := omega) only [go_sem, seval]
  refine ACalls.det (ACalls.ofLoose (c6 _) (by simp [looseL, loose, encI, encII, bad26, hLG])) ?_
  simp (disch := omega) only [go_sem, seval]
  refine ACalls.det (c7 _) ?_
  simp (disch := omega) only [go_sem, seval]
  refine ACalls.det (ACalls.ofLoose (of26_calls Γ 0 [] _ (by decide)) (by simp [looseL, loose, encI])) ?_
  simp (disch := omega) only [go_sem, seval]
  refine ACalls.det (c8 _) ?_
  simp (disch := omega) only [go_sem, seval, encII, List.map_nil, List.length_nil]
  refine ACalls.det (ACalls.ofLoose (c9 _) (by simp [looseL, loose, lf, encG_mk, encI])) ?_
  simp (disch := omega) only [go_sem, seval]
  refine ACalls.det (ACalls.ofLoose (of26_calls Γ 2 [0, 1, 2] _ (by decide)) (by simp [looseL, loose, encI])) ?_
  simp (disch := omega) only [go_sem, seval]
  refine ACalls.det (ACalls.ofLoose (c10 _) (by simp [looseL, loose, encI, loose_G])) ?_
  simp (disch := omega) only [go_sem, seval]
  refine ACalls.det (ACalls.ofLoose (c11 _) (by simp [looseL, loose, encI, encII, six26])) ?_
  simp (disch := omega) only [go_sem, seval]
end Go.Proofs.YtlgamlamolfnlaaGreat
