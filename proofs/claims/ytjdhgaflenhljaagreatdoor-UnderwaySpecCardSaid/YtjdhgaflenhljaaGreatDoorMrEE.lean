/- Texts joined: PolQ, PolR, PolS. No conditions. -/
import Derived.Test.YtjdhgaflenhljaaGreatDoorMrED
import Derived.Test.YtjdhgaflenhljaaGreatDoorMrG
import Derived.Test.YtjdhgaflenhljaaGreatDoorMrAAD
import Derived.Test.YtjdhgaflenhljaaGreatDoorMrEB
/- What each kind of expression has to fulfil. No conditions. -/
set_option linter.unusedSimpArgs false
set_option linter.unusedVariables false
namespace Go.Proofs.YtjdhgaflenhljaaGreatDoor
open Go Go.Proofs Go.Abs

set_option maxRecDepth 100000 in
theorem kinds2_calls (Γ : Nat → Option (List AV)) (x : Ex) (h : AH) (hk : x.k = 1) (hs : ShX x) : ACalls Tryz.prog Γ 123 [encX x] h fun v h' => h' = h ∧ v = .bool (formF x) := by
  refine ACalls.drop ?_
  refine acalls_code (rs := [.tmp 2]) Tryz.func123 rfl rfl rfl rfl Ty.mixed (by kernel_rfl) ?_
  have hd : formF x = decide (x.n = 0 ∧ x.l.length = 0) := by rw [formF, if_pos hk]
  rw [hd, encX_eq]
  simp (disch := omega) only [go_sem, seval, List.length_map]
  refine aIf.intro (fun h2 => ?_) (fun h2 => ?_) <;> simp (disch := omega) only [go_sem, seval, List.length_map]
  · congr 1; exact decide_eq_decide.2 (by omega)
  · rw [decide_eq_false (by omega)]
set_option maxRecDepth 100000 in
theorem kinds3_calls (Γ : Nat → Option (List AV)) (x : Ex) (h : AH) (hk : x.k = 2) (hs : ShX x) : ACalls Tryz.prog Γ 124 [encX x] h fun v h' => h' = h ∧ v = .bool (formF x) := by
  refine ACalls.drop ?_
  refine acalls_code (rs := [.tmp 2]) Tryz.func124 rfl rfl rfl rfl Ty.mixed (by kernel_rfl) ?_
  have hd : formF x = decide (1 ≤ x.n ∧ x.n ≤ 4096 ∧ x.l.length = 0) := by rw [formF, if_neg (by omega), if_pos hk]
  rw [hd, encX_eq]
  simp (disch := omega) only [go_sem, seval, List.length_map]
  refine ACalls.det (within_calls Γ _ _ _ _) ?_
  obtain ⟨b, hb⟩ : ∃ b, b = decide ((1 : Int) ≤ x.n ∧ x.n ≤ 4096) := ⟨_, rfl⟩
  rw [← hb]
  cases b <;> simp (disch := omega) only [go_sem, seval, List.length_map]
  · have := of_decide_eq_false hb.symm
    rw [decide_eq_false (by omega)]
  · have := of_decide_eq_true hb.symm
    congr 1; exact decide_eq_decide.2 (by omega)
set_option maxRecDepth 100000 in
theorem kinds4_calls (Γ : Nat → Option (List AV)) (x : Ex) (h : AH) (hk : x.k = 3) (hs : ShX x) : ACalls Tryz.prog Γ 125 [encX x] h fun v h' => h' = h ∧ v = .bool (formF x) := by
  have hl : x.l.length ≤ 9223372036854775807 := by cases x; exact hs.len
  refine ACalls.drop ?_
  refine acalls_code (rs := [.tmp 2]) Tryz.func125 rfl rfl rfl rfl Ty.mixed (by kernel_rfl) ?_
  have hd : formF x = decide (x.name.length = 0 ∧ 1 ≤ x.l.length ∧ x.l.length ≤ 16 ∧ 1 ≤ x.n ∧ x.n ≤ x.l.length) := by rw [formF, if_neg (by omega), if_neg (by omega), if_pos hk]
  rw [hd, encX_eq]
  generalize x.name = s at *
  simp (disch := omega) only [go_sem, seval, List.length_map, str_list, str_listA, nil_eq]
  cases s with
  | cons a t =>
    simp (disch := omega) only [go_sem, seval, List.isEmpty_cons]
    simp
  | nil =>
  simp (disch := omega) only [go_sem, seval, List.isEmpty_nil, List.length_map]
  refine ACalls.det (within_calls Γ _ _ _ _) ?_
  obtain ⟨b, hb⟩ : ∃ b, b = decide ((1 : Int) ≤ x.l.length ∧ (x.l.length : Int) ≤ 16) := ⟨_, rfl⟩
  rw [← hb]
  cases b <;> simp (disch := omega) only [go_sem, seval, List.length_map]
  · have := of_decide_eq_false hb.symm
    rw [decide_eq_false (by omega)]
  · have := of_decide_eq_true hb.symm
    refine ACalls.det (within_calls Γ _ _ _ _) ?_
    simp (disch := omega) only [go_sem, seval]
    congr 1; exact decide_eq_decide.2 (by first | omega | (simp; omega))
set_option maxRecDepth 100000 in
theorem kinds5_calls (Γ : Nat → Option (List AV)) (x : Ex) (h : AH) (hk : x.k = 4) (hs : ShX x) : ACalls Tryz.prog Γ 126 [encX x] h fun v h' => h' = h ∧ v = .bool (formF x) := by
  have hl : x.l.length ≤ 9223372036854775807 := by cases x; exact hs.len
  refine ACalls.drop ?_
  refine acalls_code (rs := [.tmp 2]) Tryz.func126 rfl rfl rfl rfl Ty.mixed (by kernel_rfl) ?_
  have hd : formF x = decide (x.name.length = 0 ∧ x.l.length = 2 ∧ 0 ≤ x.n ∧ x.n ≤ 1099511627776) := by rw [formF, if_neg (by omega), if_neg (by omega), if_neg (by omega), if_pos hk]
  rw [hd, encX_eq]
  generalize x.name = s at *
  simp (disch := omega) only [go_sem, seval, List.length_map, str_list, str_listA, nil_eq]
  cases s with
  | cons a t =>
    simp (disch := omega) only [go_sem, seval, List.isEmpty_cons]
    simp
  | nil =>
  simp (disch := omega) only [go_sem, seval, List.isEmpty_nil, List.length_map]
  refine aIf.intro (fun h2 => ?_) (fun h2 => ?_) <;> simp (disch := omega) only [go_sem, seval, List.length_map]
  · refine ACalls.det (within_calls Γ _ _ _ _) ?_
    simp (disch := omega) only [go_sem, seval]
    congr 1; exact decide_eq_decide.2 (by first | omega | (simp; omega))
  · rw [decide_eq_false (by omega)]
/-- The functions that the package variable holds. -/
def kindsC : List AV := [122, 123, 124, 125, 126].map fun f => .func f [] []
end Go.Proofs.YtjdhgaflenhljaaGreatDoor

/- The program's form. No conditions. -/
set_option linter.unusedSimpArgs false
set_option linter.unusedVariables false
namespace Go.Proofs.YtjdhgaflenhljaaGreatDoor
open Go Go.Proofs Go.Abs

/-- The expressions are formed: all but the last one may distinguish values. -/
def formL : List Ex → Bool
  | [] => true
  | x :: r => allX (formU (!r.isEmpty)) x && formL r
theorem formL_eq (l : List Rl) (x : Ex) : formL (l.map Rl.x ++ [x]) = (l.all (fun r => allX (formU true) r.x) && allX (formU false) x) := by
  induction l with
  | nil => simp [formL]
  | cons r l ih =>
    rw [List.map_cons, List.cons_append, formL, ih, List.all_cons]
    have : (l.map Rl.x ++ [x]).isEmpty = false := by cases l <;> rfl
    rw [this]; simp [Bool.and_assoc]
theorem formF_out {x : Ex} (h : ¬ (1 ≤ x.k ∧ x.k ≤ 4)) : formF x = false := by
  rw [formF, if_neg (by omega), if_neg (by omega), if_neg (by omega), if_neg (by omega)]
mutual
theorem ShX.part : ∀ {d : Nat} {x : Ex}, ShX x → ∀ {y : Ex × Nat}, y ∈ partsL d x → ShX y.1
  | d, .mk k n no s l, h, y, hy => by
    rw [partsL] at hy
    rcases List.mem_cons.1 hy with rfl | hy
    · exact h
    · exact ShXs.part h.mem hy
theorem ShXs.part : ∀ {d : Nat} {l : List Ex}, (∀ x ∈ l, ShX x) → ∀ {y : Ex × Nat}, y ∈ partsLs d l → ShX y.1
  | d, [], _, y, hy => by rw [partsLs] at hy; cases hy
  | d, x :: r, h, y, hy => by
    rw [partsLs] at hy
    rcases List.mem_append.1 hy with hy | hy
    · exact ShX.part (h x (by simp)) hy
    · exact ShXs.part (fun z hz => h z (by simp [hz])) hy
end
theorem mid_get (A B : AH) (o : AObj) (n : Nat) (h : n = A.length) : (A ++ o :: B)[n]? = some o := by
  subst h; simp
set_option maxHeartbeats 8000000 in
set_option maxRecDepth 100000 in
theorem form_calls (Γ : Nat → Option (List AV)) (hΓ : Γ 0 = some kindsC) (B : Nat) (p : Pol) (h : AH) (hB : B ≤ h.length) (hs : ShP p) (hsz : ∀ x ∈ exprs p, sizeX x ≤ 1000) (hrl : p.rules.length ≤ 1000000) :
    ACallsX Tryz.prog Γ B 63 [encPol p] h (fun v h' => h' = h ∧ v = .tuple [] ∧ formedF p = true) fun u => u = errU 200 ∧ formedF p = false := by
  refine ACallsX.drop ?_
  refine acallsX_code (rs := []) 63 Tryz.func63 rfl rfl rfl rfl (by kernel_rfl) ?_
  have c1 := fun h => exprs_calls Γ p h hs hrl
  have hr := hs.rules
  have hk := hs.kinds
  have hev : ∀ σ, ev Γ σ (.global 0) = .eptr kindsC := fun σ => by rw [ev, hΓ]
  have hd : formedF p = (decide (0 < p.kinds.length ∧ p.rules.length = p.kinds.length ∧ 1 ≤ p.mode ∧ p.mode ≤ 4) && ruleF p.kinds p.rules && p.rules.all (fun r => allX (formU true) r.x) && allX (formU false) p.change) := rfl
  rw [encPol_eq] at c1 ⊢
  have hS : Same B h (h ++ [.row [.str ⟨⟨p.name⟩⟩, .sl (encT p.kinds) .free, .sl (encT p.offices) .free, .sl (p.rules.map encRl) .free, .int .i64 p.change.k, .int .i64 p.change.n, .int .i64 p.change.no, .str ⟨⟨p.change.name⟩⟩, .sl (p.change.l.map encX) .free, .int .i64 p.mode] 37]) := .app h _ hB
  simp (disch := omega) only [go_sem, seval, encT_len, List.length_map]
  refine aIf.intro (fun h1 => ?_) (fun h1 => ?_) <;> simp (disch := omega) only [go_sem, seval, encT_len, List.length_map]
  rotate_left
  · refine must_x Γ _ _ _ _ (by simp; omega) (fun e => by cases e) (fun _ => ?_)
    exact panSame hS (by simp) ⟨rfl, by rw [hd, decide_eq_false (by omega)]; rfl⟩
  refine aIf.intro (fun h2 => ?_) (fun h2 => ?_) <;> simp (disch := omega) only [go_sem, seval, encT_len, List.length_map]
  rotate_left
  · refine must_x Γ _ _ _ _ (by simp; omega) (fun e => by cases e) (fun _ => ?_)
    exact panSame hS (by simp) ⟨rfl, by rw [hd, decide_eq_false (by omega)]; rfl⟩
  refine ACallsX.det (within_calls Γ _ _ _ _) ?_
  simp (disch := omega) only [go_sem, seval]
  refine must_x Γ _ _ _ _ (by simp; omega) (fun h3 => ?_) (fun h3 => ?_)
  rotate_left
  · have h3 := of_decide_eq_false h3
    exact panSame hS (by simp) ⟨rfl, by rw [hd, decide_eq_false (by omega)]; rfl⟩
  have h3 := of_decide_eq_true h3
  rw [decide_eq_true (by omega), Bool.true_and] at hd
  simp (disch := omega) only [go_sem, seval, List.length_map]
  refine bwp_loopL (B := B) (β := AH) p.rules [1, 28, 29, 30] (fun don _ => [(1, .ptr (some (h.length, 0))), (28, .sl (p.rules.map encRl) .free), (29, .int .i64 p.rules.length), (30, .int .i64 don.length)]) (fun j => h ++ .row [.str ⟨⟨p.name⟩⟩, .sl (encT p.kinds) .free, .sl (encT p.offices) .free, .sl (p.rules.map encRl) .free, .int .i64 p.change.k, .int .i64 p.change.n, .int .i64 p.change.no, .str ⟨⟨p.change.name⟩⟩, .sl (p.change.l.map encX) .free, .int .i64 p.mode] 37 :: j) (fun don _ _ => ruleF (p.kinds.take don.length) don = true) [] ?_ rfl rfl (by kernel_rfl) ?_ ?_
  · simp (disch := omega) only [go_sem, seval]
  · rintro don x r j hdn hp
    have hlen : p.rules.length = don.length + 1 + r.length := by rw [hdn]; simp; omega
    have e1 : (p.rules.map encRl)[don.length]? = some (encRl x) := by rw [hdn]; exact rowMid ..
    have hx : x ∈ p.rules := by rw [hdn]; simp
    obtain ⟨k, hkk⟩ : ∃ k, p.kinds[don.length]? = some k := ⟨_, List.getElem?_eq_getElem (by omega)⟩
    have e2 : (encT p.kinds)[don.length]? = some (.str ⟨⟨k⟩⟩) := by simp [encT, hkk]
    have hsplit : p.kinds = p.kinds.take don.length ++ k :: p.kinds.drop (don.length + 1) := by
      have hlt : don.length < p.kinds.length := by omega
      rw [List.getElem?_eq_getElem hlt] at hkk
      cases hkk
      rw [List.getElem_cons_drop, List.take_append_drop]
    have htl : (p.kinds.take don.length).length = don.length := by rw [List.length_take]; omega
    have hrf : ruleF p.kinds p.rules = ((x.kind == k) && decide (0 ≤ x.think ∧ x.think ≤ 1099511627775) && ruleF (p.kinds.drop (don.length + 1)) r) := by
      conv => lhs; rw [hsplit, hdn, ruleF_app k x _ _ _ _ htl, hp, Bool.true_and]
    have hnx : ruleF (p.kinds.take (don.length + 1)) (don ++ [x]) = ((x.kind == k) && decide (0 ≤ x.think ∧ x.think ≤ 1099511627775)) := by
      rw [List.take_add_one, hkk]
      have := ruleF_app k x (p.kinds.take don.length) don [] [] htl
      simp only [hp, ruleF_nil, Bool.true_and, Bool.and_true] at this
      exact this
    rw [encRl_eq] at e1
    simp (disch := omega) only [go_sem, seval, List.length_map]
    refine aIf.pos (by omega) ?_
    simp (disch := omega) only [go_sem, seval, e1]
    have hS2 : Same B h (h ++ .row [.str ⟨⟨p.name⟩⟩, .sl (encT p.kinds) .free, .sl (encT p.offices) .free, .sl (p.rules.map encRl) .free, .int .i64 p.change.k, .int .i64 p.change.n, .int .i64 p.change.no, .str ⟨⟨p.change.name⟩⟩, .sl (p.change.l.map encX) .free, .int .i64 p.mode] 37 :: (j ++ [.row [.str ⟨⟨x.kind⟩⟩, .int .i64 x.kno, .int .i64 x.think, .int .i64 x.x.k, .int .i64 x.x.n, .int .i64 x.x.no, .str ⟨⟨x.x.name⟩⟩, .sl (x.x.l.map encX) .free] 60])) := .app h _ hB
    refine .of (awp_drawX (B := B) (c := 13) rfl rfl (by kernel_rfl) Ty.mixed (by kernel_rfl) (by kernel_rfl) ?_ ?_)
    · unfold seps
      simp (disch := omega) only [go_sem, seval]
    · simp only [List.take_succ_cons, List.take_zero]
      simp (disch := omega) only [go_sem, seval, e2, str_list, str_listA]
      cases hk1 : (x.kind == k) <;> rw [hk1] at hrf hnx <;> simp (disch := omega) only [go_sem, seval]
      · refine must_x Γ _ _ _ _ (by simp; omega) (fun e => by cases e) (fun _ => ?_)
        exact panSame hS2 (by simp) ⟨rfl, by rw [hd, hrf]; rfl⟩
      refine aCallF.intro (fun _ => within_calls Γ _ _ _ _) ?_
      simp (disch := omega) only [go_sem, seval]
      refine must_x Γ _ _ _ _ (by simp; omega) (fun h4 => ?_) (fun h4 => ?_)
      rotate_left
      · have h4 := of_decide_eq_false h4
        exact panSame hS2 (by simp) ⟨rfl, by rw [hd, hrf, decide_eq_false (by omega)]; rfl⟩
      have h4 := of_decide_eq_true h4
      simp (disch := omega) only [go_sem, seval]
      refine roundL_next (j ++ [.row [.str ⟨⟨x.kind⟩⟩, .int .i64 x.kno, .int .i64 x.think, .int .i64 x.x.k, .int .i64 x.x.n, .int .i64 x.x.no, .str ⟨⟨x.x.name⟩⟩, .sl (x.x.l.map encX) .free] 60]) ?_ ?_ ?_
      · rw [List.length_append, List.length_singleton, hnx, decide_eq_true (by omega)]; rfl
      · simp (disch := omega) only [go_sem, seval, List.length_append]
      · simp
  · rintro j hp
    rw [List.take_of_length_le (by omega)] at hp
    rw [hp, Bool.true_and, ← formL_eq] at hd
    have hd : formedF p = formL (exprs p) := hd
    simp (disch := omega) only [go_sem, seval, List.length_map]
    refine BWP.keep [1] ?_
    refine bCode_ok (B := B) _ _ _ _ (by kernel_rfl) ?_
    simp (disch := omega) only [go_sem, seval]
    refine ACallsX.det (c1 _) ?_
    simp (disch := omega) only [go_sem, seval, List.length_map]
    have hxl : (exprs p).length = p.rules.length + 1 := by simp [exprs]
    refine bwp_loopL (B := B) (β := AH) (exprs p) [4, 52, 53, 54] (fun don _ => [(4, .ptr (some (h.length + (j.length + 1), 0))), (52, .sl ((exprs p).map encX) .free), (53, .int .i64 (exprs p).length), (54, .int .i64 don.length)]) (fun Y => h ++ .row [.str ⟨⟨p.name⟩⟩, .sl (encT p.kinds) .free, .sl (encT p.offices) .free, .sl (p.rules.map encRl) .free, .int .i64 p.change.k, .int .i64 p.change.n, .int .i64 p.change.no, .str ⟨⟨p.change.name⟩⟩, .sl (p.change.l.map encX) .free, .int .i64 p.mode] 37 :: (j ++ .row [.sl ((exprs p).map encX) .free] 33 :: Y))
      (fun _ rest _ => formL (exprs p) = formL rest) [] ?_ rfl rfl (by kernel_rfl) ?_ ?_
    · simp (disch := omega) only [go_sem, seval]
    · rintro don x r Y hdn hp
      have hlen : (exprs p).length = don.length + 1 + r.length := by rw [hdn]; simp; omega
      have e1 : ((exprs p).map encX)[don.length]? = some (encX x) := by rw [hdn]; exact rowMid ..
      have hx : x ∈ exprs p := by rw [hdn]; simp
      simp (disch := omega) only [go_sem, seval, List.length_map]
      refine aIf.pos (by omega) ?_
      rw [encX_chC, chC] at e1
      simp (disch := omega) only [go_sem, seval, e1]
      refine ACallsX.det ((parts_calls Γ x 1 _).args (by rw [encX_chC, chC]; rfl)) ?_
      simp (disch := omega) only [go_sem, seval, partsV]
      refine BWP.keep [4, 5, 52, 53, 54, 60] ?_
      simp (disch := omega) only [go_sem, seval]
      obtain ⟨K, hK⟩ : ∃ K : AH, K = h ++ .row [.str ⟨⟨p.name⟩⟩, .sl (encT p.kinds) .free, .sl (encT p.offices) .free, .sl (p.rules.map encRl) .free, .int .i64 p.change.k, .int .i64 p.change.n, .int .i64 p.change.no, .str ⟨⟨p.change.name⟩⟩, .sl (p.change.l.map encX) .free, .int .i64 p.mode] 37 :: (j ++ .row [.sl ((exprs p).map encX) .free] 33 :: (Y ++ [.row [.int .i64 don.length] 3, .row [.int .i64 x.k, .int .i64 x.n, .int .i64 x.no, .str ⟨⟨x.name⟩⟩, .sl (x.l.map encX) .free] 35])) := ⟨_, rfl⟩
      have hSK : ∀ l, Same B h (K ++ l) := fun l => by rw [hK, List.append_assoc]; exact .app h _ hB
      have hK4 : ∀ l, (K ++ l)[h.length + (j.length + 1)]? = some (.row [.sl ((exprs p).map encX) .free] 33) := fun l => by
        rw [show K ++ l = (h ++ .row [.str ⟨⟨p.name⟩⟩, .sl (encT p.kinds) .free, .sl (encT p.offices) .free, .sl (p.rules.map encRl) .free, .int .i64 p.change.k, .int .i64 p.change.n, .int .i64 p.change.no, .str ⟨⟨p.change.name⟩⟩, .sl (p.change.l.map encX) .free, .int .i64 p.mode] 37 :: j) ++ .row [.sl ((exprs p).map encX) .free] 33 :: (Y ++ [.row [.int .i64 don.length] 3, .row [.int .i64 x.k, .int .i64 x.n, .int .i64 x.no, .str ⟨⟨x.name⟩⟩, .sl (x.l.map encX) .free] 35] ++ l) from by rw [hK]; simp]
        exact mid_get _ _ _ _ (by simp)
      have hK5 : ∀ l, (K ++ l)[h.length + (j.length + (Y.length + 1) + 1)]? = some (.row [.int .i64 don.length] 3) := fun l => by
        rw [show K ++ l = (h ++ .row [.str ⟨⟨p.name⟩⟩, .sl (encT p.kinds) .free, .sl (encT p.offices) .free, .sl (p.rules.map encRl) .free, .int .i64 p.change.k, .int .i64 p.change.n, .int .i64 p.change.no, .str ⟨⟨p.change.name⟩⟩, .sl (p.change.l.map encX) .free, .int .i64 p.mode] 37 :: (j ++ .row [.sl ((exprs p).map encX) .free] 33 :: Y)) ++ .row [.int .i64 don.length] 3 :: ([.row [.int .i64 x.k, .int .i64 x.n, .int .i64 x.no, .str ⟨⟨x.name⟩⟩, .sl (x.l.map encX) .free] 35] ++ l) from by rw [hK]; simp]
        exact mid_get _ _ _ _ (by simp)
      have hdep := depth_size x
      have hsx : sizeX x ≤ 1000 := hsz x hx
      have hBK : B ≤ K.length := by rw [hK]; simp; omega
      have hpr : formL (exprs p) = (allX (formU (!r.isEmpty)) x && formL r) := by rw [hp, formL]
      have bad : ∀ dn y r', partsL 1 x = dn ++ y :: r' → formU (!r.isEmpty) y.1 = false → formedF p = false := fun dn y r' e hn => by
        have : allX (formU (!r.isEmpty)) x = false := by
          rw [← partsL_all (formU (!r.isEmpty)) 1 x, e, List.all_append, List.all_cons, hn]; simp
        rw [hd, hpr, this]; rfl
      rw [← hK]
      refine bwp_parts0 (B := B) (X := fun u => u = errU 200 ∧ formedF p = false) x 1 K (fun dn => dn.all (fun y => formU (!r.isEmpty) y.1) = true) (fun _ _ => False) ?_ hBK (hs.ex hx) (by omega) rfl ?_ ?_ ?_ ?_
      · simp (disch := omega) only [go_sem, seval, partsV]
      · rintro li hli dn y r' Z hdy j1
        rw [encPt, chC]
        refine ayieldX_L hli Tryz.func63 (by simp) rfl rfl Ty.mixed (by kernel_rfl) (by kernel_rfl) ?_
        simp (disch := omega) only [go_sem, seval]
        refine .of (awp_drawX (B := B) (c := 14) rfl rfl (by kernel_rfl) Ty.mixed (by kernel_rfl) (by kernel_rfl) ?_ ?_)
        · unfold seps
          simp (disch := omega) only [go_sem, seval]
        simp only [List.take_succ_cons, List.take_zero]
        simp (disch := omega) only [go_sem, seval, hΓ]
        refine aCallF.intro (fun _ => within_calls Γ _ _ _ _) ?_
        by_cases hyk : 1 ≤ y.1.k ∧ y.1.k ≤ 4
        rotate_left
        · rw [decide_eq_false hyk]
          simp (disch := omega) only [go_sem, seval]
          refine must_x Γ _ _ _ _ (by simp; omega) (fun e => by cases e) (fun _ => ?_)
          exact panSame (sameK hBK _ _) (by simp) ⟨rfl, bad dn y r' hdy (by rw [formU, formF_out hyk]; rfl)⟩
        rw [decide_eq_true hyk]
        simp (disch := omega) only [go_sem, seval, hev]
        have hz := hs.ex hx
        have hyz : ShX y.1 := ShX.part (d := 1) hz (by rw [hdy]; simp)
        refine ⟨by omega, by omega, ?_⟩
        have hnl : NoLoop [.row [.int .i64 y.1.k, .int .i64 y.1.n, .int .i64 y.1.no, .str ⟨⟨y.1.name⟩⟩, .sl (y.1.l.map encX) .free, .int .i64 y.2] 104] := fun ob ho st pe lj e => by rw [List.mem_singleton] at ho; subst ho; cases e
        obtain e | e | e | e : y.1.k = 1 ∨ y.1.k = 2 ∨ y.1.k = 3 ∨ y.1.k = 4 := by omega
        · have c3 := fun h => kinds2_calls Γ y.1 h e hyz
          have hfu : formU (!r.isEmpty) y.1 = (formF y.1 && (!r.isEmpty || !(y.1.k == 4))) := rfl
          rw [encX_eq, e] at c3
          rw [e] at hfu ⊢
          simp (disch := omega) only [go_sem, seval, kindsC]
          refine aCallF.intro (fun _ => c3 _) ?_
          simp (disch := omega) only [go_sem, seval]
          refine must_x Γ _ _ _ _ (by simp; omega) (fun h5 => ?_) (fun h5 => ?_)
          rotate_left
          · exact panSame (sameK hBK _ _) (by simp) ⟨rfl, bad dn y r' hdy (by rw [hfu, h5]; rfl)⟩
          rw [h5] at hfu
          simp (disch := omega) only [go_sem, seval, hK4, hK5, List.length_map]
          have hnl' : NoLoop [.row [.int .i64 1, .int .i64 y.1.n, .int .i64 y.1.no, .str ⟨⟨y.1.name⟩⟩, .sl (y.1.l.map encX) .free, .int .i64 y.2] 104] := fun ob ho st pe lj e => by rw [List.mem_singleton] at ho; subst ho; cases e
          refine aIf.intro (fun h6 => ?_) (fun h6 => ?_) <;> simp (disch := omega) only [go_sem, seval]
          · have h7 : r.isEmpty = false := by cases r with | nil => simp at hlen; omega | cons _ _ => rfl
            rw [h7] at hfu
            refine must_x Γ _ _ _ _ (by simp; omega) (fun _ => ?_) (fun e => by cases e)
            simp (disch := omega) only [go_sem, seval]
            refine .inl ⟨?_, _, hnl', by simp⟩
            rw [List.all_append, j1, List.all_cons, h7, hfu]; rfl
          · have h7 : r.isEmpty = true := by cases r with | nil => rfl | cons _ _ => simp at hlen; omega
            rw [h7] at hfu
            refine must_x Γ _ _ _ _ (by simp; omega) (fun _ => ?_) (fun e => by cases e)
            simp (disch := omega) only [go_sem, seval]
            refine .inl ⟨?_, _, hnl', by simp⟩
            rw [List.all_append, j1, List.all_cons, h7, hfu]; rfl
        · have c3 := fun h => kinds3_calls Γ y.1 h e hyz
          have hfu : formU (!r.isEmpty) y.1 = (formF y.1 && (!r.isEmpty || !(y.1.k == 4))) := rfl
          rw [encX_eq, e] at c3
          rw [e] at hfu ⊢
          simp (disch := omega) only [go_sem, seval, kindsC]
          refine aCallF.intro (fun _ => c3 _) ?_
          simp (disch := omega) only [go_sem, seval]
          refine must_x Γ _ _ _ _ (by simp; omega) (fun h5 => ?_) (fun h5 => ?_)
          rotate_left
          · exact panSame (sameK hBK _ _) (by simp) ⟨rfl, bad dn y r' hdy (by rw [hfu, h5]; rfl)⟩
          rw [h5] at hfu
          simp (disch := omega) only [go_sem, seval, hK4, hK5, List.length_map]
          have hnl' : NoLoop [.row [.int .i64 2, .int .i64 y.1.n, .int .i64 y.1.no, .str ⟨⟨y.1.name⟩⟩, .sl (y.1.l.map encX) .free, .int .i64 y.2] 104] := fun ob ho st pe lj e => by rw [List.mem_singleton] at ho; subst ho; cases e
          refine aIf.intro (fun h6 => ?_) (fun h6 => ?_) <;> simp (disch := omega) only [go_sem, seval]
          · have h7 : r.isEmpty = false := by cases r with | nil => simp at hlen; omega | cons _ _ => rfl
            rw [h7] at hfu
            refine must_x Γ _ _ _ _ (by simp; omega) (fun _ => ?_) (fun e => by cases e)
            simp (disch := omega) only [go_sem, seval]
            refine .inl ⟨?_, _, hnl', by simp⟩
            rw [List.all_append, j1, List.all_cons, h7, hfu]; rfl
          · have h7 : r.isEmpty = true := by cases r with | nil => rfl | cons _ _ => simp at hlen; omega
            rw [h7] at hfu
            refine must_x Γ _ _ _ _ (by simp; omega) (fun _ => ?_) (fun e => by cases e)
            simp (disch := omega) only [go_sem, seval]
            refine .inl ⟨?_, _, hnl', by simp⟩
            rw [List.all_append, j1, List.all_cons, h7, hfu]; rfl
        · have c3 := fun h => kinds4_calls Γ y.1 h e hyz
          have hfu : formU (!r.isEmpty) y.1 = (formF y.1 && (!r.isEmpty || !(y.1.k == 4))) := rfl
          rw [encX_eq, e] at c3
          rw [e] at hfu ⊢
          simp (disch := omega) only [go_sem, seval, kindsC]
          refine aCallF.intro (fun _ => c3 _) ?_
          simp (disch := omega) only [go_sem, seval]
          refine must_x Γ _ _ _ _ (by simp; omega) (fun h5 => ?_) (fun h5 => ?_)
          rotate_left
          · exact panSame (sameK hBK _ _) (by simp) ⟨rfl, bad dn y r' hdy (by rw [hfu, h5]; rfl)⟩
          rw [h5] at hfu
          simp (disch := omega) only [go_sem, seval, hK4, hK5, List.length_map]
          have hnl' : NoLoop [.row [.int .i64 3, .int .i64 y.1.n, .int .i64 y.1.no, .str ⟨⟨y.1.name⟩⟩, .sl (y.1.l.map encX) .free, .int .i64 y.2] 104] := fun ob ho st pe lj e => by rw [List.mem_singleton] at ho; subst ho; cases e
          refine aIf.intro (fun h6 => ?_) (fun h6 => ?_) <;> simp (disch := omega) only [go_sem, seval]
          · have h7 : r.isEmpty = false := by cases r with | nil => simp at hlen; omega | cons _ _ => rfl
            rw [h7] at hfu
            refine must_x Γ _ _ _ _ (by simp; omega) (fun _ => ?_) (fun e => by cases e)
            simp (disch := omega) only [go_sem, seval]
            refine .inl ⟨?_, _, hnl', by simp⟩
            rw [List.all_append, j1, List.all_cons, h7, hfu]; rfl
          · have h7 : r.isEmpty = true := by cases r with | nil => rfl | cons _ _ => simp at hlen; omega
            rw [h7] at hfu
            refine must_x Γ _ _ _ _ (by simp; omega) (fun _ => ?_) (fun e => by cases e)
            simp (disch := omega) only [go_sem, seval]
            refine .inl ⟨?_, _, hnl', by simp⟩
            rw [List.all_append, j1, List.all_cons, h7, hfu]; rfl
        · have c3 := fun h => kinds5_calls Γ y.1 h e hyz
          have hfu : formU (!r.isEmpty) y.1 = (formF y.1 && (!r.isEmpty || !(y.1.k == 4))) := rfl
          rw [encX_eq, e] at c3
          rw [e] at hfu ⊢
          simp (disch := omega) only [go_sem, seval, kindsC]
          refine aCallF.intro (fun _ => c3 _) ?_
          simp (disch := omega) only [go_sem, seval]
          refine must_x Γ _ _ _ _ (by simp; omega) (fun h5 => ?_) (fun h5 => ?_)
          rotate_left
          · exact panSame (sameK hBK _ _) (by simp) ⟨rfl, bad dn y r' hdy (by rw [hfu, h5]; rfl)⟩
          rw [h5] at hfu
          simp (disch := omega) only [go_sem, seval, hK4, hK5, List.length_map]
          have hnl' : NoLoop [.row [.int .i64 4, .int .i64 y.1.n, .int .i64 y.1.no, .str ⟨⟨y.1.name⟩⟩, .sl (y.1.l.map encX) .free, .int .i64 y.2] 104] := fun ob ho st pe lj e => by rw [List.mem_singleton] at ho; subst ho; cases e
          refine aIf.intro (fun h6 => ?_) (fun h6 => ?_) <;> simp (disch := omega) only [go_sem, seval]
          · have h7 : r.isEmpty = false := by cases r with | nil => simp at hlen; omega | cons _ _ => rfl
            rw [h7] at hfu
            refine must_x Γ _ _ _ _ (by simp; omega) (fun _ => ?_) (fun e => by cases e)
            simp (disch := omega) only [go_sem, seval]
            refine .inl ⟨?_, _, hnl', by simp⟩
            rw [List.all_append, j1, List.all_cons, h7, hfu]; rfl
          · have h7 : r.isEmpty = true := by cases r with | nil => rfl | cons _ _ => simp at hlen; omega
            rw [h7] at hfu
            refine must_x Γ _ _ _ _ (by simp; omega) (fun e => by cases e) (fun _ => ?_)
            exact panSame (sameK hBK _ _) (by simp) ⟨rfl, bad dn y r' hdy (by rw [h7, hfu]; rfl)⟩
      · rintro j1 Z
        rw [partsL_all] at j1
        simp (disch := omega) only [go_sem, seval]
        refine bCode_ok (B := B) _ _ _ _ (by kernel_rfl) ?_
        simp (disch := omega) only [go_sem, seval]
        refine roundL_next (Y ++ .row [.int .i64 don.length] 3 :: .row [.int .i64 x.k, .int .i64 x.n, .int .i64 x.no, .str ⟨⟨x.name⟩⟩, .sl (x.l.map encX) .free] 35 :: .dead :: Z) ?_ ?_ ?_
        · rw [hpr, j1]; rfl
        · simp (disch := omega) only [go_sem, seval, List.length_append]
        · rw [hK]; simp
      · rintro dn y r' _ hF; exact hF.elim
      · rintro u ⟨rfl, hu⟩
        exact panSame (by have := hSK []; rwa [List.append_nil] at this) (by rw [hK]; simp) ⟨rfl, hu⟩
    · rintro Y hp
      simp (disch := omega) only [go_sem, seval, List.length_map]
      rw [hd, hp]; rfl
end Go.Proofs.YtjdhgaflenhljaaGreatDoor

/- The program's resolve and resolved. No conditions. -/
set_option linter.unusedSimpArgs false
set_option linter.unusedVariables false
namespace Go.Proofs.YtjdhgaflenhljaaGreatDoor
open Go Go.Proofs Go.Abs

def prK (o : List Tx) (h : AH) (k n w : Int) (s : Tx) (dn : List Ex) (own : Abs.Own) : AH := h ++ [.row [.int .i64 k, .int .i64 n, .int .i64 w, .str ⟨⟨s⟩⟩, .sl (dn.map fun y => encX (resX o y)) own] 35, .row [.int .i64 0, .int .i64 0, .int .i64 0, .str ⟨#[]⟩, .sl [] .full] 35]
set_option maxRecDepth 100000 in
theorem presolve_calls_k (Γ : Nat → Option (List AV)) (o : List Tx) (ho : o.length ≤ 9223372036854775807) : ∀ (m : Nat) (x : Ex) (h : AH), SizeOf.sizeOf x < m → ShX x → sizeX x ≤ 1000000 → ACalls Tryz.prog Γ 64 [.sl (encT o) .free, encX x] h fun v h' => h' = h ∧ v = encX (resX o x)
  | 0, _, _, hk, _, _ => absurd hk (Nat.not_lt_zero _)
  | m + 1, .mk k n no s l, h, hsz, hs, hlim => by
    refine ACalls.dropL ?_
    refine acalls_code (rs := [.cell 4 35]) Tryz.func64 rfl rfl rfl rfl Ty.mixed (by kernel_rfl) ?_
    simp only [encX_mk, resX_mk]
    simp (disch := omega) only [go_sem, seval]
    have hl1 := hs.len
    rw [sizeX] at hlim
    have hwd : wantF o (.mk k n no s l) = if isNmd (.mk k n 0 s l) = true then idxT o s else 0 := rfl
    have c1 := fun h => isNamed_calls Γ (.mk k n 0 s l) h
    rw [encX_mk] at c1
    refine ACalls.det (c1 _) ?_
    cases hb : isNmd (.mk k n 0 s l)
    · rw [hb] at hwd
      have hwd : wantF o (.mk k n no s l) = 0 := hwd
      rw [hwd]
      simp (disch := omega) only [go_sem, seval]
      refine awp_loopL (β := List Ex × Abs.Own × AH) l [0, 3, 4, 19, 20, 21] (fun don _ => [(0, .sl (encT o) .free), (3, .ptr (some (h.length, 0))), (4, .ptr (some (h.length + 1, 0))), (19, .sl (l.map encX) .free), (20, .int .i64 l.length), (21, .int .i64 don.length)]) (fun b => prK o h k n 0 s b.1 b.2.1 ++ b.2.2) (fun don _ b => b.1 = don ∧ OwnAt (prK o h k n 0 s b.1 b.2.1) b.2.2 don.length b.2.1) ([], .full, []) ?_ (by simp [prK]) ⟨rfl, trivial⟩ Ty.mixed (by kernel_rfl) ?_ ?_
      · simp (disch := omega) only [go_sem, seval, List.length_nil]
      · rintro don x r ⟨dn, own, X⟩ hdn ⟨rfl, hown⟩
        simp only at hown ⊢
        have hlen : l.length = dn.length + 1 + r.length := by rw [hdn]; simp; omega
        have e1 : (l.map encX)[dn.length]? = some (encX x) := by rw [hdn]; exact rowMid ..
        have hx : x ∈ l := by rw [hdn]; simp
        have hb := size_mem hx
        have hbl := sizes_len l
        have c4 := fun h => presolve_calls_k Γ o ho m x h (memX_sz hx hsz) (hs.mem x hx) (by omega)
        have hxe := encX_eq x
        rw [hxe] at e1 c4
        simp (disch := omega) only [go_sem, seval, List.length_map, prK]
        refine aIf.pos (by omega) ?_
        simp (disch := omega) only [go_sem, seval, e1, prK]
        refine aCallF.intro (fun _ => c4 _) ?_
        simp (disch := omega) only [go_sem, seval, prK]
        have eh : ∀ dn own X, h ++ .row [.int .i64 k, .int .i64 n, .int .i64 0, .str ⟨⟨s⟩⟩, .sl (dn.map fun y => encX (resX o y)) own] 35 :: .row [.int .i64 0, .int .i64 0, .int .i64 0, .str ⟨#[]⟩, .sl [] .full] 35 :: X = prK o h k n 0 s dn own ++ X := fun dn own X => by simp [prK]
        rw [eh]
        refine aAp_sl (by rw [List.length_map]; exact hown.app _) (rows_res o _) (rowsOK_X [resX o x]) (by simp; omega) (by simp; omega) fun j' own' ho' hg => ?_
        rw [prK]
        simp (disch := omega) only [go_sem, seval]
        refine roundL_next (dn ++ [x], own', j') ⟨rfl, ?_⟩ ?_ ?_
        · refine OwnAt.len (K := prK o h k n 0 s dn own) ?_ (by simp [prK])
          simpa using ho'
        · simp (disch := omega) only [go_sem, seval, List.length_append]
        · simp [prK]
      · rintro ⟨dn, own, X⟩ ⟨rfl, hown⟩
        simp only at hown ⊢
        simp (disch := omega) only [go_sem, seval, List.length_map, prK]
        refine AWP.keep [3, 4] (aCode_ok Ty.mixed _ _ _ _ (by kernel_rfl) ?_)
        simp (disch := omega) only [go_sem, seval, prK]
        rw [show dn.map (fun y => encX (resX o y)) = (dn.map (resX o)).map encX from by rw [List.map_map]; rfl, loose_Xs]
        exact ⟨rb_Xs _ _ ▸ trivial, rfl⟩
    · rw [hb] at hwd
      have hwd : wantF o (.mk k n no s l) = idxT o s := hwd
      rw [hwd]
      simp (disch := omega) only [go_sem, seval]
      refine ACalls.det (sindex_calls Γ o s _ ho) ?_
      simp (disch := omega) only [go_sem, seval]
      refine awp_loopL (β := List Ex × Abs.Own × AH) l [0, 3, 4, 19, 20, 21] (fun don _ => [(0, .sl (encT o) .free), (3, .ptr (some (h.length, 0))), (4, .ptr (some (h.length + 1, 0))), (19, .sl (l.map encX) .free), (20, .int .i64 l.length), (21, .int .i64 don.length)]) (fun b => prK o h k n (idxT o s) s b.1 b.2.1 ++ b.2.2) (fun don _ b => b.1 = don ∧ OwnAt (prK o h k n (idxT o s) s b.1 b.2.1) b.2.2 don.length b.2.1) ([], .full, []) ?_ (by simp [prK]) ⟨rfl, trivial⟩ Ty.mixed (by kernel_rfl) ?_ ?_
      · simp (disch := omega) only [go_sem, seval, List.length_nil]
      · rintro don x r ⟨dn, own, X⟩ hdn ⟨rfl, hown⟩
        simp only at hown ⊢
        have hlen : l.length = dn.length + 1 + r.length := by rw [hdn]; simp; omega
        have e1 : (l.map encX)[dn.length]? = some (encX x) := by rw [hdn]; exact rowMid ..
        have hx : x ∈ l := by rw [hdn]; simp
        have hb := size_mem hx
        have hbl := sizes_len l
        have c4 := fun h => presolve_calls_k Γ o ho m x h (memX_sz hx hsz) (hs.mem x hx) (by omega)
        have hxe := encX_eq x
        rw [hxe] at e1 c4
        simp (disch := omega) only [go_sem, seval, List.length_map, prK]
        refine aIf.pos (by omega) ?_
        simp (disch := omega) only [go_sem, seval, e1, prK]
        refine aCallF.intro (fun _ => c4 _) ?_
        simp (disch := omega) only [go_sem, seval, prK]
        have eh : ∀ dn own X, h ++ .row [.int .i64 k, .int .i64 n, .int .i64 (idxT o s), .str ⟨⟨s⟩⟩, .sl (dn.map fun y => encX (resX o y)) own] 35 :: .row [.int .i64 0, .int .i64 0, .int .i64 0, .str ⟨#[]⟩, .sl [] .full] 35 :: X = prK o h k n (idxT o s) s dn own ++ X := fun dn own X => by simp [prK]
        rw [eh]
        refine aAp_sl (by rw [List.length_map]; exact hown.app _) (rows_res o _) (rowsOK_X [resX o x]) (by simp; omega) (by simp; omega) fun j' own' ho' hg => ?_
        rw [prK]
        simp (disch := omega) only [go_sem, seval]
        refine roundL_next (dn ++ [x], own', j') ⟨rfl, ?_⟩ ?_ ?_
        · refine OwnAt.len (K := prK o h k n (idxT o s) s dn own) ?_ (by simp [prK])
          simpa using ho'
        · simp (disch := omega) only [go_sem, seval, List.length_append]
        · simp [prK]
      · rintro ⟨dn, own, X⟩ ⟨rfl, hown⟩
        simp only at hown ⊢
        simp (disch := omega) only [go_sem, seval, List.length_map, prK]
        refine AWP.keep [3, 4] (aCode_ok Ty.mixed _ _ _ _ (by kernel_rfl) ?_)
        simp (disch := omega) only [go_sem, seval, prK]
        rw [show dn.map (fun y => encX (resX o y)) = (dn.map (resX o)).map encX from by rw [List.map_map]; rfl, loose_Xs]
        exact ⟨rb_Xs _ _ ▸ trivial, rfl⟩
theorem presolve_calls (Γ : Nat → Option (List AV)) (o : List Tx) (x : Ex) (h : AH) (ho : o.length ≤ 9223372036854775807) (hs : ShX x) (hl : sizeX x ≤ 1000000) : ACalls Tryz.prog Γ 64 [.sl (encT o) .free, encX x] h fun v h' => h' = h ∧ v = encX (resX o x) :=
  presolve_calls_k Γ o ho _ x h (Nat.lt_succ_self _) hs hl
end Go.Proofs.YtjdhgaflenhljaaGreatDoor
