/- Texts joined: PerF, PerG, PerH. No conditions. -/
import Derived.Test.YtplllkjobpjaoaaGreatDoorMrEH
/- The reference's Has, People, Holders, FewHolders. No conditions. -/
set_option linter.unusedSimpArgs false
set_option linter.unusedVariables false
namespace Go.Proofs.YtplllkjobpjaoaaGreatDoor
open Go Go.Proofs Go.Abs

set_option maxRecDepth 100000 in
theorem rhas_calls (Γ : Nat → Option (List AV)) (who : List Int) (n : Int) (h : AH) (hl : who.length ≤ 1000) : ACalls Tryz.prog Γ 60 [.sl (encI who) .free, .int .i64 n] h fun v h' => h' = h ∧ v = .bool (hasP who n) := by
  refine ACalls.drop ?_
  refine acalls_code (rs := [.tmp 4]) Tryz.func60 rfl rfl rfl rfl Ty.mixed (by kernel_rfl) ?_
  simp (disch := omega) only [go_sem, seval, encI_len]
  refine awp_loopL (β := Unit) who [0, 1, 5] (fun don _ => [(0, .sl (encI who) .free), (1, .int .i64 n), (5, .int .i64 don.length)]) (fun _ => h) (fun don _ _ => ¬ n ∈ don) () ?_ rfl (by simp) Ty.mixed (by kernel_rfl) ?_ ?_
  · simp (disch := omega) only [go_sem, seval, List.length_nil]
  · rintro don x r _ hd hp
    have hlen : who.length = don.length + 1 + r.length := by rw [hd]; simp; omega
    have e1 : (encI who)[don.length]? = some (.int .i64 x) := by rw [hd]; exact encI_get don r x
    simp (disch := omega) only [go_sem, seval, encI_len]
    refine aIf.pos (by omega) ?_
    simp (disch := omega) only [go_sem, seval, e1]
    refine aIf.intro (fun h1 => ?_) (fun h1 => ?_) <;> simp (disch := omega) only [go_sem, seval]
    · rw [hasP, decide_eq_true (by rw [hd, h1]; simp)]
    · refine roundL_next () ?_ ?_ rfl
      · intro hm
        rcases List.mem_append.1 hm with hm | hm
        · exact hp hm
        · simp at hm; exact h1 hm.symm
      · simp (disch := omega) only [go_sem, seval, List.length_append]
  · rintro _ hp
    simp (disch := omega) only [go_sem, seval, encI_len]
    refine AWP.keep [] (aCode_ok Ty.mixed _ _ _ _ (by kernel_rfl) ?_)
    simp (disch := omega) only [go_sem, seval]
    rw [hasP, decide_eq_false hp]
theorem concat_get {α : Type} (f : α → AV) (dn r : List α) (z y : α) (l : List α) (hl : l = dn ++ [z] ++ y :: r) : (l.map f)[((((dn ++ [z]).length : Nat) : Int) - 1).toNat]? = some (f z) := by
  have : ((((dn ++ [z]).length : Nat) : Int) - 1).toNat = dn.length := by simp
  rw [this, hl, List.append_assoc]
  simp
set_option maxHeartbeats 1600000 in
set_option maxRecDepth 100000 in
theorem rpeople_calls (Γ : Nat → Option (List AV)) (l : List Int) (h : AH) (hl : l.length ≤ 9223372036854775807) : ACalls Tryz.prog Γ 37 [.sl (encI l) .free] h fun v h' => h' = h ∧ v = .bool (peopleF l) := by
  refine ACalls.drop ?_
  refine acalls_code (rs := [.tmp 2]) Tryz.func37 rfl rfl rfl rfl Ty.mixed (by kernel_rfl) ?_
  simp (disch := omega) only [go_sem, seval, encI_len]
  refine awp_loopL (β := Unit) l [0, 3] (fun don _ => [(0, .sl (encI l) .free), (3, .int .i64 don.length)]) (fun _ => h) (fun don _ _ => ordF (-1) don = true) () ?_ rfl rfl Ty.mixed (by kernel_rfl) ?_ ?_
  · simp (disch := omega) only [go_sem, seval, List.length_nil]
  · rintro don x r _ hd hp
    have hlen : l.length = don.length + 1 + r.length := by rw [hd]; simp; omega
    have e1 : (encI l)[don.length]? = some (.int .i64 x) := by rw [hd]; exact encI_get don r x
    have hpl : peopleF l = (decide (don.getLast?.getD (-1) < x ∧ x < 64) && ordF x r) := by rw [peopleF, hd, ordF_app _ _ _ _ hp]
    have hnx : ordF (-1) (don ++ [x]) = decide (don.getLast?.getD (-1) < x ∧ x < 64) := by rw [ordF_app _ _ _ _ hp, ordF, Bool.and_true]
    have hla := ordF_last hp (by omega)
    simp (disch := omega) only [go_sem, seval, encI_len]
    refine aIf.pos (by omega) ?_
    simp (disch := omega) only [go_sem, seval, e1]
    refine aIf.intro (fun h1 => ?_) (fun h1 => ?_) <;> simp (disch := omega) only [go_sem, seval, e1]
    · rw [hpl, decide_eq_false (by omega)]; rfl
    refine aIf.intro (fun h2 => ?_) (fun h2 => ?_) <;> simp (disch := omega) only [go_sem, seval, e1]
    · rw [hpl, decide_eq_false (by omega)]; rfl
    refine aIf.intro (fun h3 => ?_) (fun h3 => ?_) <;> simp (disch := omega) only [go_sem, seval, e1]
    · obtain ⟨dn, z, rfl⟩ : ∃ dn z, don = dn ++ [z] := by
        rcases List.eq_nil_or_concat don with rfl | ⟨dn, z, rfl⟩
        · simp at h3
        · exact ⟨dn, z, by simp⟩
      have e2 : (encI l)[((((dn ++ [z]).length : Nat) : Int) - 1).toNat]? = some (.int .i64 z) := concat_get _ dn r z x l hd
      rw [List.getLast?_concat, Option.getD_some] at hpl hnx
      refine ⟨by omega, ?_⟩
      rw [e2]
      simp (disch := omega) only [go_sem, seval]
      refine aIf.intro (fun h4 => ?_) (fun h4 => ?_) <;> simp (disch := omega) only [go_sem, seval]
      · rw [hpl, decide_eq_false (by omega)]; rfl
      · refine roundL_next () ?_ ?_ rfl
        · rw [hnx, decide_eq_true (by omega)]
        · simp (disch := omega) only [go_sem, seval, List.length_append]
    · have hdn : don = [] := List.length_eq_zero_iff.1 (by omega)
      subst hdn
      rw [List.getLast?_nil, Option.getD_none] at hnx
      refine roundL_next () ?_ ?_ rfl
      · rw [hnx, decide_eq_true (by omega)]
      · simp (disch := omega) only [go_sem, seval, List.length_append]
  · rintro _ hp
    simp (disch := omega) only [go_sem, seval, encI_len]
    refine AWP.keep [] (aCode_ok Ty.mixed _ _ _ _ (by kernel_rfl) ?_)
    simp (disch := omega) only [go_sem, seval]
    rw [peopleF, hp]
theorem all_wt_app {dn r : List Hd} {y : Hd} (h : dn.all (fun x => decide (1 ≤ x.weight ∧ x.weight ≤ 64)) = true) : (dn ++ y :: r).all (fun x => decide (1 ≤ x.weight ∧ x.weight ≤ 64)) = (decide (1 ≤ y.weight ∧ y.weight ≤ 64) && r.all (fun x => decide (1 ≤ x.weight ∧ x.weight ≤ 64))) := by
  rw [List.all_append, h, Bool.true_and, List.all_cons]
def lineI (dn : List Hd) : Prop := dn.all (fun x => decide (1 ≤ x.weight ∧ x.weight ≤ 64)) = true ∧ ordF (-1) (dn.map Hd.person) = true
def lastP (dn : List Hd) : Int := (dn.map Hd.person).getLast?.getD (-1)
theorem lineI_step {dn r : List Hd} {y : Hd} (h : lineI dn) : lineF (dn ++ y :: r) = ((decide (1 ≤ y.weight ∧ y.weight ≤ 64) && r.all (fun x => decide (1 ≤ x.weight ∧ x.weight ≤ 64))) && (decide (lastP dn < y.person ∧ y.person < 64) && ordF y.person (r.map Hd.person))) := by
  rw [lineF, all_wt_app h.1, peopleF, List.map_append, List.map_cons, ordF_app _ _ _ _ h.2]; rfl
theorem lineI_next {dn : List Hd} {y : Hd} (h : lineI dn) (h1 : 1 ≤ y.weight ∧ y.weight ≤ 64) (h2 : lastP dn < y.person ∧ y.person < 64) : lineI (dn ++ [y]) := by
  refine ⟨?_, ?_⟩
  · rw [List.all_append, h.1, List.all_cons, decide_eq_true h1]; rfl
  · rw [List.map_append, List.map_cons, List.map_nil, ordF_app _ _ _ _ h.2]
    show (decide (lastP dn < y.person ∧ y.person < 64) && ordF y.person []) = true
    rw [decide_eq_true h2]; rfl
set_option maxHeartbeats 4000000 in
set_option maxRecDepth 100000 in
theorem rholders_calls (Γ : Nat → Option (List AV)) (hs : List (List Hd)) (n : Int) (h : AH) (hl : hs.length ≤ 1000) (hl2 : ∀ l ∈ hs, l.length ≤ 1000) : ACalls Tryz.prog Γ 36 [.sl (encHl hs) .free, .int .i64 n] h fun v h' => h' = h ∧ v = .bool (holdersF hs n) := by
  refine ACalls.drop ?_
  refine acalls_code (rs := [.tmp 4]) Tryz.func36 rfl rfl rfl rfl Ty.mixed (by kernel_rfl) ?_
  simp (disch := omega) only [go_sem, seval, encHl_len]
  refine aIf.intro (fun h1 => ?_) (fun h1 => ?_) <;> simp (disch := omega) only [go_sem, seval, encHl_len]
  rotate_left
  · rw [holdersF, decide_eq_false h1, Bool.and_false]
  refine awp_loopL (β := Unit) hs [0, 1, 5] (fun don _ => [(0, .sl (encHl hs) .free), (1, .int .i64 n), (5, .int .i64 don.length)]) (fun _ => h) (fun don _ _ => don.all lineF = true) () ?_ rfl rfl Ty.mixed (by kernel_rfl) ?_ ?_
  · simp (disch := omega) only [go_sem, seval, List.length_nil]
  · rintro don x r _ hd hp
    have hlen : hs.length = don.length + 1 + r.length := by rw [hd]; simp; omega
    have e1 : (encHl hs)[don.length]? = some (.sl (x.map encHd) .free) := by rw [hd]; exact rowMid ..
    have hx : x ∈ hs := by rw [hd]; simp
    have hxl := hl2 x hx
    have bad : lineF x = false → holdersF hs n = false := fun e => by
      rw [holdersF, hd, List.all_append, List.all_cons, e]; simp
    simp (disch := omega) only [go_sem, seval, encHl_len]
    refine aIf.pos (by omega) ?_
    simp (disch := omega) only [go_sem, seval, e1, List.length_map]
    refine awp_loopL (β := Unit) x [0, 1, 5, 6, 7] (fun dn _ => [(0, .sl (encHl hs) .free), (1, .int .i64 n), (5, .int .i64 don.length), (6, .sl (x.map encHd) .free), (7, .int .i64 dn.length)]) (fun _ => h) (fun dn _ _ => lineI dn) () ?_ rfl ⟨rfl, rfl⟩ Ty.mixed (by kernel_rfl) ?_ ?_
    · simp (disch := omega) only [go_sem, seval, List.length_nil]
    · rintro dn y r' _ hdn hI
      have hlen2 : x.length = dn.length + 1 + r'.length := by rw [hdn]; simp; omega
      have e2 : (x.map encHd)[dn.length]? = some (encHd y) := by rw [hdn]; exact rowMid ..
      have hst := lineI_step (r := r') (y := y) hI
      rw [← hdn] at hst
      have hla := ordF_last hI.2 (by omega)
      have hlp : lastP dn = (dn.map Hd.person).getLast?.getD (-1) := rfl
      rw [← hlp] at hla
      have no : ¬ ((1 ≤ y.weight ∧ y.weight ≤ 64) ∧ lastP dn < y.person ∧ y.person < 64) → holdersF hs n = false := fun e => bad (by
        rw [hst]
        by_cases h1 : 1 ≤ y.weight ∧ y.weight ≤ 64
        · rw [decide_eq_false (p := lastP dn < y.person ∧ y.person < 64) (fun h2 => e ⟨h1, h2⟩)]; simp
        · rw [decide_eq_false h1]; simp)
      rw [encHd] at e2
      simp (disch := omega) only [go_sem, seval, List.length_map]
      refine aIf.pos (by omega) ?_
      simp (disch := omega) only [go_sem, seval, e2]
      refine aIf.intro (fun h2 => ?_) (fun h2 => ?_) <;> simp (disch := omega) only [go_sem, seval, e2]
      · rw [no (by omega)]
      refine aIf.intro (fun h3 => ?_) (fun h3 => ?_) <;> simp (disch := omega) only [go_sem, seval, e2]
      · rw [no (by omega)]
      refine aIf.intro (fun h4 => ?_) (fun h4 => ?_) <;> simp (disch := omega) only [go_sem, seval, e2]
      · rw [no (by omega)]
      refine aIf.intro (fun h5 => ?_) (fun h5 => ?_) <;> simp (disch := omega) only [go_sem, seval, e2]
      · rw [no (by omega)]
      refine aIf.intro (fun h6 => ?_) (fun h6 => ?_) <;> simp (disch := omega) only [go_sem, seval, e2]
      · obtain ⟨dn2, z, rfl⟩ : ∃ dn2 z, dn = dn2 ++ [z] := by
          rcases List.eq_nil_or_concat dn with rfl | ⟨dn2, z, rfl⟩
          · simp at h6
          · exact ⟨dn2, z, by simp⟩
        have e3 : (x.map encHd)[((((dn2 ++ [z]).length : Nat) : Int) - 1).toNat]? = some (encHd z) := concat_get _ dn2 r' z y x hdn
        have hlz : lastP (dn2 ++ [z]) = z.person := by rw [lastP, List.map_append, List.map_cons, List.map_nil, List.getLast?_concat, Option.getD_some]
        rw [hlz] at no hla
        rw [encHd] at e3
        refine ⟨by omega, ?_⟩
        rw [e3]
        simp (disch := omega) only [go_sem, seval]
        refine aIf.intro (fun h7 => ?_) (fun h7 => ?_) <;> simp (disch := omega) only [go_sem, seval]
        · rw [no (by omega)]
        · refine roundL_next () ?_ ?_ rfl
          · exact lineI_next hI (by omega) (by rw [hlz]; omega)
          · simp (disch := omega) only [go_sem, seval, List.length_append]
      · have hdn0 : dn = [] := List.length_eq_zero_iff.1 (by omega)
        subst hdn0
        have hlz : lastP [] = -1 := rfl
        refine roundL_next () ?_ ?_ rfl
        · exact lineI_next hI (by omega) (by rw [hlz]; omega)
        · simp (disch := omega) only [go_sem, seval, List.length_append]
    · rintro _ hI
      simp (disch := omega) only [go_sem, seval, List.length_map]
      refine AWP.keep [0, 1, 5] (aCode_ok Ty.mixed _ _ _ _ (by kernel_rfl) ?_)
      simp (disch := omega) only [go_sem, seval]
      refine roundL_next () ?_ ?_ rfl
      · have hlf : lineF x = true := by rw [lineF, hI.1, peopleF, hI.2]; rfl
        rw [List.all_append, hp, List.all_cons, hlf]; rfl
      · simp (disch := omega) only [go_sem, seval, List.length_append]
  · rintro _ hp
    simp (disch := omega) only [go_sem, seval, encHl_len]
    refine AWP.keep [] (aCode_ok Ty.mixed _ _ _ _ (by kernel_rfl) ?_)
    simp (disch := omega) only [go_sem, seval]
    rw [holdersF, hp, decide_eq_true h1]; rfl
def fewHF (hs : List (List Hd)) : Bool := hs.all (fun l => decide (l.length ≤ 70)) && decide (hs.length ≤ 40)
end Go.Proofs.YtplllkjobpjaoaaGreatDoor

/- The reference's Fulfil, Permits, Changes. No conditions. -/
set_option linter.unusedSimpArgs false
set_option linter.unusedVariables false
namespace Go.Proofs.YtplllkjobpjaoaaGreatDoor
open Go Go.Proofs Go.Abs

theorem sumH_bd (who : List Int) (l : List Hd) (hw : ∀ x ∈ l, 1 ≤ x.weight ∧ x.weight ≤ 64) : 0 ≤ sumH who l ∧ sumH who l ≤ 64 * l.length := by
  induction l with
  | nil => simp [sumH]
  | cons x r ih =>
    have h1 := ih fun y hy => hw y (by simp [hy])
    have h2 := hw x (by simp)
    rw [sumH, List.length_cons]
    split <;> omega
def RFulC (Γ : Nat → Option (List AV)) (v : Int) (hs : List (List Hd)) (who : List Int) (x : Ex) : Prop :=
  ∀ h, ACalls Tryz.prog Γ 38 [encX x, .int .i64 v, .sl (encHl hs) .free, .sl (encI who) .free] h fun w h' => h' = h ∧ w = .bool (fulF v hs who x)
set_option maxHeartbeats 4000000 in
set_option maxRecDepth 100000 in
theorem rfulfil_calls_k (Γ : Nat → Option (List AV)) (v : Int) (hs : List (List Hd)) (who : List Int) (H : HdOK hs who) (o : List Tx) (u : Bool) (ho : o.length = hs.length) : ∀ (m : Nat) (x : Ex), SizeOf.sizeOf x < m → okX o u x = true → RFulC Γ v hs who x
  | 0, _, hk, _ => absurd hk (Nat.not_lt_zero _)
  | m + 1, x, hsz, hok => by
    have IH : ∀ y ∈ x.l, RFulC Γ v hs who y := fun y hy => rfulfil_calls_k Γ v hs who H o u ho m y (by cases x; exact memX_sz hy hsz) (okX_sub hok hy)
    have htop := okX_top hok
    have hk := okF_kind htop
    intro h
    have hd := fulF_eq v hs who x
    have c1 := fun n h => rhas_calls Γ who n h H.wl
    have hno : x.k = 1 ∨ x.k = 2 → 0 ≤ x.no ∧ x.no < hs.length ∧ (encHl hs)[x.no.toNat]? = some (.sl ((rowH hs x.no).map encHd) .free) := fun e => by
      have h0 := okF_named htop e
      refine ⟨h0.1, by omega, ?_⟩
      have : x.no.toNat < hs.length := by omega
      rw [encHl, List.getElem?_map, rowH, List.getD_eq_getElem?_getD, List.getElem?_eq_getElem this]; rfl
    have hrl : x.k = 1 ∨ x.k = 2 → (rowH hs x.no).length ≤ 1000 := fun e => H.len _ (rowH_mem ⟨(hno e).1, (hno e).2.1⟩)
    have hrw : x.k = 1 ∨ x.k = 2 → ∀ y ∈ rowH hs x.no, 1 ≤ y.weight ∧ y.weight ≤ 64 := fun e => H.wt _ (rowH_mem ⟨(hno e).1, (hno e).2.1⟩)
    refine ACalls.drop ?_
    rw [encX_eq]
    obtain e | e | e | e : x.k = 1 ∨ x.k = 2 ∨ x.k = 3 ∨ x.k = 4 := by omega
    · obtain ⟨n1, n2, n3⟩ := hno (.inl e)
      have hrl := hrl (.inl e)
      rw [e] at hd ⊢
      rw [if_pos rfl, anyH] at hd
      generalize rowH hs x.no = l at *
      refine acalls_code (rs := [.tmp 8]) Tryz.func38 rfl rfl rfl rfl Ty.mixed (by kernel_rfl) ?_
      simp (disch := omega) only [go_sem, seval]
      refine ⟨n1, ?_⟩
      rw [n3]
      simp (disch := omega) only [go_sem, seval, List.length_map]
      refine awp_loopL (β := Unit) l [3, 4, 9, 10, 11] (fun don _ => [(3, .sl (encI who) .free), (4, .ptr (some (h.length, 0))), (9, .int .i64 0), (10, .sl (l.map encHd) .free), (11, .int .i64 don.length)]) (fun _ => h ++ [.row [.int .i64 1, .int .i64 x.n, .int .i64 x.no, .str ⟨⟨x.name⟩⟩, .sl (x.l.map encX) .free] 26]) (fun don _ _ => don.any (fun y => hasP who y.person) = false) () ?_ rfl rfl Ty.mixed (by kernel_rfl) ?_ ?_
      · simp (disch := omega) only [go_sem, seval, List.length_nil]
      · rintro don y r _ hdn hp
        have hlen : l.length = don.length + 1 + r.length := by rw [hdn]; simp; omega
        have e1 : (l.map encHd)[don.length]? = some (encHd y) := by rw [hdn]; exact rowMid ..
        rw [encHd] at e1
        simp (disch := omega) only [go_sem, seval, List.length_map]
        refine aIf.pos (by omega) ?_
        simp (disch := omega) only [go_sem, seval, e1]
        refine ACalls.det (c1 _ _) ?_
        cases hb : hasP who y.person <;> simp (disch := omega) only [go_sem, seval, e1]
        · refine ACalls.det (c1 _ _) ?_
          rw [hb]
          simp (disch := omega) only [go_sem, seval, e1]
          refine roundL_next () ?_ ?_ rfl
          · rw [List.any_append, hp, List.any_cons, hb]; rfl
          · simp (disch := omega) only [go_sem, seval, List.length_append]
        · rw [hd, hdn, List.any_append, List.any_cons, hb]; simp
      · rintro _ hp
        simp (disch := omega) only [go_sem, seval, List.length_map]
        refine AWP.keep [4, 9] (aCode_ok Ty.mixed _ _ _ _ (by kernel_rfl) ?_)
        simp (disch := omega) only [go_sem, seval]
        rw [hd, hp]
    · obtain ⟨n1, n2, n3⟩ := hno (.inr e)
      have hrl := hrl (.inr e)
      have hrw := hrw (.inr e)
      rw [e] at hd ⊢
      rw [if_neg (by decide), if_pos rfl] at hd
      generalize rowH hs x.no = l at *
      refine acalls_code (rs := [.tmp 8]) Tryz.func38 rfl rfl rfl rfl Ty.mixed (by kernel_rfl) ?_
      simp (disch := omega) only [go_sem, seval]
      refine ⟨n1, ?_⟩
      rw [n3]
      simp (disch := omega) only [go_sem, seval, List.length_map]
      refine awp_loopL (β := Unit) l [3, 4, 9, 10, 11] (fun don _ => [(3, .sl (encI who) .free), (4, .ptr (some (h.length, 0))), (9, .int .i64 (sumH who don)), (10, .sl (l.map encHd) .free), (11, .int .i64 don.length)]) (fun _ => h ++ [.row [.int .i64 2, .int .i64 x.n, .int .i64 x.no, .str ⟨⟨x.name⟩⟩, .sl (x.l.map encX) .free] 26]) (fun don _ _ => True) () ?_ rfl trivial Ty.mixed (by kernel_rfl) ?_ ?_
      · simp (disch := omega) only [go_sem, seval, List.length_nil, sumH]
      · rintro don y r _ hdn -
        have hlen : l.length = don.length + 1 + r.length := by rw [hdn]; simp; omega
        have e1 : (l.map encHd)[don.length]? = some (encHd y) := by rw [hdn]; exact rowMid ..
        have hb1 := sumH_bd who don fun z hz => hrw z (by rw [hdn]; simp [hz])
        have hb2 := hrw y (by rw [hdn]; simp)
        have hn : sumH who (don ++ [y]) = sumH who don + (if hasP who y.person then y.weight else 0) := by rw [sumH_app]; simp [sumH]
        rw [encHd] at e1
        simp (disch := omega) only [go_sem, seval, List.length_map]
        refine aIf.pos (by omega) ?_
        simp (disch := omega) only [go_sem, seval, e1]
        refine ACalls.det (c1 _ _) ?_
        cases hb : hasP who y.person <;> rw [hb] at hn <;> simp (disch := omega) only [go_sem, seval, e1]
        · refine ACalls.det (c1 _ _) ?_
          rw [hb]
          simp (disch := omega) only [go_sem, seval, e1]
          rw [if_neg (by decide), Int.add_zero] at hn
          refine roundL_next () trivial ?_ rfl
          simp (disch := omega) only [go_sem, seval, List.length_append, hn]
        · refine ACalls.det (c1 _ _) ?_
          rw [hb]
          rw [if_pos rfl] at hn
          simp (disch := omega) only [go_sem, seval, e1]
          refine roundL_next () trivial ?_ rfl
          simp (disch := omega) only [go_sem, seval, List.length_append, hn]
      · rintro _ -
        simp (disch := omega) only [go_sem, seval, List.length_map]
        refine AWP.keep [4, 9] (aCode_ok Ty.mixed _ _ _ _ (by kernel_rfl) ?_)
        simp (disch := omega) only [go_sem, seval]
        rw [hd]
    · have hl3 := okF_of htop e
      rw [e] at hd ⊢
      rw [if_neg (by decide), if_neg (by decide), if_pos rfl] at hd
      refine acalls_code (rs := [.tmp 8]) Tryz.func38 rfl rfl rfl rfl Ty.mixed (by kernel_rfl) ?_
      simp (disch := omega) only [go_sem, seval, List.length_map]
      refine awp_loopL (β := Unit) x.l [1, 2, 3, 4, 9, 12] (fun don _ => [(1, .int .i64 v), (2, .sl (encHl hs) .free), (3, .sl (encI who) .free), (4, .ptr (some (h.length, 0))), (9, .int .i64 (cntT (don.map (fulF v hs who)))), (12, .int .i64 don.length)]) (fun _ => h ++ [.row [.int .i64 3, .int .i64 x.n, .int .i64 x.no, .str ⟨⟨x.name⟩⟩, .sl (x.l.map encX) .free] 26]) (fun don _ _ => True) () ?_ rfl trivial Ty.mixed (by kernel_rfl) ?_ ?_
      · simp (disch := omega) only [go_sem, seval, List.length_nil]
        rfl
      · rintro don y r _ hdn -
        have hlen : x.l.length = don.length + 1 + r.length := by rw [hdn]; simp; omega
        have e1 : (x.l.map encX)[don.length]? = some (encX y) := by rw [hdn]; exact rowMid ..
        have hb := cntT_bd (don.map (fulF v hs who))
        rw [List.length_map] at hb
        have iy := IH y (by rw [hdn]; simp)
        have hn : cntT ((don ++ [y]).map (fulF v hs who)) = cntT (don.map (fulF v hs who)) + (if fulF v hs who y then 1 else 0) := by
          rw [List.map_append, cntT_app]; simp [cntT]
        simp (disch := omega) only [go_sem, seval, List.length_map]
        refine aIf.pos (by omega) ?_
        simp (disch := omega) only [go_sem, seval, e1]
        refine ACalls.det (iy _) ?_
        cases hf : fulF v hs who y <;> rw [hf] at hn <;> simp (disch := omega) only [go_sem, seval]
        · rw [if_neg (by decide), Int.add_zero] at hn
          refine roundL_next () trivial ?_ rfl
          simp (disch := omega) only [go_sem, seval, List.length_append, hn]
        · rw [if_pos rfl] at hn
          refine roundL_next () trivial ?_ rfl
          simp (disch := omega) only [go_sem, seval, List.length_append, hn]
      · rintro _ -
        simp (disch := omega) only [go_sem, seval, List.length_map]
        refine AWP.keep [4, 9] (aCode_ok Ty.mixed _ _ _ _ (by kernel_rfl) ?_)
        simp (disch := omega) only [go_sem, seval]
        rw [hd]
    · have hl4 := okF_upto htop e
      rw [e] at hd ⊢
      rw [if_neg (by decide), if_neg (by decide), if_neg (by decide)] at hd
      obtain ⟨a, b, hab⟩ : ∃ a b, x.l = [a, b] := by
        have hl := hl4.1
        match hx : x.l with
        | [] => rw [hx] at hl; cases hl
        | [_] => rw [hx] at hl; cases hl
        | [a, b] => exact ⟨a, b, rfl⟩
        | _ :: _ :: _ :: _ => rw [hx] at hl; simp at hl
      have ia := IH a (by rw [hab]; simp)
      have ib := IH b (by rw [hab]; simp)
      rw [hab, List.map_cons, List.map_cons, List.map_nil] at hd ⊢
      refine acalls_code (rs := [.tmp 8]) Tryz.func38 rfl rfl rfl rfl Ty.mixed (by kernel_rfl) ?_
      simp (disch := omega) only [go_sem, seval]
      refine AWP.keep [1, 2, 3, 4] (aCode_ok Ty.mixed _ _ _ _ (by kernel_rfl) ?_)
      simp (disch := omega) only [go_sem, seval]
      refine aIf.intro (fun h1 => ?_) (fun h1 => ?_) <;> simp (disch := omega) only [go_sem, seval]
      · refine ACalls.det (ia _) ?_
        simp (disch := omega) only [go_sem, seval]
        rw [hd, if_pos h1]; rfl
      · refine ACalls.det (ib _) ?_
        simp (disch := omega) only [go_sem, seval]
        rw [hd, if_neg h1]; rfl
end Go.Proofs.YtplllkjobpjaoaaGreatDoor

/- The reference's Permits, Changes, Few. No conditions. -/
set_option linter.unusedSimpArgs false
set_option linter.unusedVariables false
namespace Go.Proofs.YtplllkjobpjaoaaGreatDoor
open Go Go.Proofs Go.Abs

set_option maxHeartbeats 1600000 in
set_option maxRecDepth 100000 in
theorem rpermits_calls (Γ : Nat → Option (List AV)) (p : Pol) (kind value : Int) (hs : List (List Hd)) (who : List Int) (h : AH) (hp : ShP p) (S : Szs hs who) :
    ACalls Tryz.prog Γ 22 [encPol p, .int .i64 kind, .int .i64 value, .sl (encHl hs) .free, .sl (encI who) .free] h fun w h' => h' = h ∧ w = encB2 (permF p kind value hs who) := by
  have c1 := fun h => rcheck_calls Γ p h hp
  have c2 := fun h => rholders_calls Γ hs p.offices.length h S.n S.l
  have c3 := fun h => rpeople_calls Γ who h (by have := S.w; omega)
  have c4 := fun H o u ho x hx => rfulfil_calls_k Γ value hs who H o u ho _ x (Nat.lt_succ_self _) hx
  simp only [RFulC] at c4
  have hk := hp.kinds
  have ho := hp.offices
  refine ACalls.drop ?_
  rw [encPol_eq] at *
  refine acalls_code (rs := [.tmp 10, .tmp 11]) Tryz.func22 rfl rfl rfl rfl Ty.mixed (by kernel_rfl) ?_
  simp (disch := omega) only [go_sem, seval]
  refine ACalls.det (c1 _) ?_
  simp (disch := omega) only [go_sem, seval]
  have hd : permF p kind value hs who = if checkF p ≠ 0 then (false, checkF p) else if kind < 0 ∨ (p.kinds.length : Int) ≤ kind ∨ value < 0 ∨ 1099511627776 < value then (false, 1) else if holdersF hs p.offices.length = false then (false, 210) else if peopleF who = false then (false, 1) else (((p.rules[kind.toNat]?).map fun r => fulF value hs who r.x).getD false, 0) := rfl
  refine aIf.intro (fun h1 => ?_) (fun h1 => ?_) <;> simp (disch := omega) only [go_sem, seval]
  rotate_left
  · rw [hd, if_pos h1]; rfl
  rw [if_neg (by simpa using h1)] at hd
  refine aIf.intro (fun h2 => ?_) (fun h2 => ?_) <;> simp (disch := omega) only [go_sem, seval, encT_len]
  · rw [hd, if_pos (by omega)]; rfl
  refine aIf.intro (fun h3 => ?_) (fun h3 => ?_) <;> simp (disch := omega) only [go_sem, seval, encT_len]
  · rw [hd, if_pos (by omega)]; rfl
  refine aIf.intro (fun h4 => ?_) (fun h4 => ?_) <;> simp (disch := omega) only [go_sem, seval, encT_len]
  · rw [hd, if_pos (by omega)]; rfl
  refine aIf.intro (fun h5 => ?_) (fun h5 => ?_) <;> simp (disch := omega) only [go_sem, seval, encT_len]
  · rw [hd, if_pos (by omega)]; rfl
  rw [if_neg (by omega)] at hd
  refine ACalls.det (c2 _) ?_
  simp (disch := omega) only [go_sem, seval]
  cases h6 : holdersF hs p.offices.length <;> rw [h6] at hd <;> simp (disch := omega) only [go_sem, seval]
  · rw [hd]; rfl
  refine ACalls.det (c3 _) ?_
  simp (disch := omega) only [go_sem, seval]
  cases h7 : peopleF who <;> rw [h7] at hd <;> simp (disch := omega) only [go_sem, seval]
  · rw [hd]; rfl
  obtain ⟨H, hn⟩ := hd_ok h6 h7
  have hck : checkF p = 0 := h1
  have hlen := check_lens hck
  obtain ⟨r, hr⟩ : ∃ r, p.rules[kind.toNat]? = some r := ⟨_, List.getElem?_eq_getElem (by omega)⟩
  have hrm : r ∈ p.rules := List.mem_of_getElem? hr
  have c5 := c4 H p.offices true (by omega) r.x (check_rule hck hrm).1
  have e1 : (p.rules.map encRl)[kind.toNat]? = some (encRl r) := by rw [List.getElem?_map, hr]; rfl
  rw [encX_eq] at c5
  rw [encRl_eq] at e1
  rw [hr] at hd
  refine ⟨by omega, ?_⟩
  rw [e1]
  simp (disch := omega) only [go_sem, seval]
  refine ACalls.det (c5 _) ?_
  simp (disch := omega) only [go_sem, seval]
  rw [hd]; rfl
set_option maxHeartbeats 1600000 in
set_option maxRecDepth 100000 in
theorem rchanges_calls (Γ : Nat → Option (List AV)) (p : Pol) (hs : List (List Hd)) (who : List Int) (h : AH) (hp : ShP p) (S : Szs hs who) :
    ACalls Tryz.prog Γ 26 [encPol p, .sl (encHl hs) .free, .sl (encI who) .free] h fun w h' => h' = h ∧ w = encB2 (changeF p hs who) := by
  have c1 := fun h => rcheck_calls Γ p h hp
  have c2 := fun h => rholders_calls Γ hs p.offices.length h S.n S.l
  have c3 := fun h => rpeople_calls Γ who h (by have := S.w; omega)
  have c4 := fun H o u ho x hx => rfulfil_calls_k Γ 0 hs who H o u ho _ x (Nat.lt_succ_self _) hx
  simp only [RFulC] at c4
  have ho := hp.offices
  refine ACalls.drop ?_
  rw [encPol_eq] at *
  refine acalls_code (rs := [.tmp 6, .tmp 7]) Tryz.func26 rfl rfl rfl rfl Ty.mixed (by kernel_rfl) ?_
  simp (disch := omega) only [go_sem, seval]
  refine ACalls.det (c1 _) ?_
  simp (disch := omega) only [go_sem, seval]
  have hd : changeF p hs who = if checkF p ≠ 0 then (false, checkF p) else if holdersF hs p.offices.length = false then (false, 210) else if peopleF who = false then (false, 1) else (fulF 0 hs who p.change, 0) := rfl
  refine aIf.intro (fun h1 => ?_) (fun h1 => ?_) <;> simp (disch := omega) only [go_sem, seval, encT_len]
  rotate_left
  · rw [hd, if_pos h1]; rfl
  rw [if_neg (by simpa using h1)] at hd
  refine ACalls.det (c2 _) ?_
  simp (disch := omega) only [go_sem, seval]
  cases h6 : holdersF hs p.offices.length <;> rw [h6] at hd <;> simp (disch := omega) only [go_sem, seval]
  · rw [hd]; rfl
  refine ACalls.det (c3 _) ?_
  simp (disch := omega) only [go_sem, seval]
  cases h7 : peopleF who <;> rw [h7] at hd <;> simp (disch := omega) only [go_sem, seval]
  · rw [hd]; rfl
  obtain ⟨H, hn⟩ := hd_ok h6 h7
  have hck : checkF p = 0 := h1
  have c5 := c4 H p.offices false (by omega) p.change (check_change hck).1
  rw [encX_eq] at c5
  refine ACalls.det (c5 _) ?_
  simp (disch := omega) only [go_sem, seval]
  rw [hd]; rfl
def fewF (p : Pol) (hs : List (List Hd)) : Bool := decide (p.kinds.length ≤ 20 ∧ p.offices.length ≤ 40 ∧ p.rules.length ≤ 20) && decide (sizeX p.change ≤ 300) && p.rules.all (fun r => decide (sizeX r.x ≤ 300)) && fewHF hs
end Go.Proofs.YtplllkjobpjaoaaGreatDoor
