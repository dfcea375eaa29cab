/- Texts joined: UnE, UnF. No conditions. -/
import Derived.Test.YtjdhgaflenhljaaGreatDoorMrHD
/- Answers: find, Needed, Decide and the reference's. No conditions. -/
set_option linter.unusedSimpArgs false
set_option linter.unusedVariables false
namespace Go.Proofs.YtjdhgaflenhljaaGreatDoor
open Go Go.Proofs Go.Abs

def fstB (b : Bool) : Nat → List Bool → Int
  | _, [] => -1
  | i, x :: r => if x = b then i else fstB b (i + 1) r
def upI : Nat → List Int
  | 0 => []
  | n + 1 => upI n ++ [(n : Int)]
theorem upI_len (n : Nat) : (upI n).length = n := by
  induction n with
  | zero => rfl
  | succ n ih => simp [upI, ih]
theorem encI_one (n : Int) : encI [n] = [.int .i64 n] := rfl
theorem upI_app (n : Nat) : encI (upI n) ++ encI [(n : Int)] = encI (upI (n + 1)) := by simp [upI, encI]
theorem fstB_no (b : Bool) : ∀ (l : List Bool) (i : Nat), fstB b i l < 0 ↔ ∀ x ∈ l, x ≠ b
  | [], _ => by simp [fstB]
  | x :: r, i => by
    rw [fstB]
    split
    · rename_i hx
      simp [hx]
    · rename_i hx
      rw [fstB_no b r (i + 1)]
      simp [hx]
def togF (mode : Int) (l : List Bool) : Bool := if mode = 3 then decide (0 < l.length ∧ fstB false 0 l < 0) else if mode = 4 then decide (0 ≤ fstB true 0 l) else decide (l = [true])
def decF (mode : Int) (l : List Bool) : Bool × Int := if errN mode l.length ≠ 0 then (false, errN mode l.length) else (togF mode l, 0)
def needF (mode : Int) (l : List Bool) : List Int × Bool × Int :=
  if errN mode l.length ≠ 0 then ([], false, errN mode l.length) else if mode = 4 ∧ 0 ≤ fstB true 0 l then ([fstB true 0 l], true, 0) else if mode = 3 ∧ 0 ≤ fstB false 0 l then ([fstB false 0 l], false, 0) else (upI l.length, togF mode l, 0)
theorem need_dec (mode : Int) (l : List Bool) : decF mode l = (needF mode l).2 := by
  rw [decF, needF]
  split
  · rfl
  split
  · rename_i h1
    rw [togF, if_neg (by omega), if_pos h1.1, decide_eq_true h1.2]
  split
  · rename_i h1
    rw [togF, if_pos h1.1, decide_eq_false (by omega)]
  · rfl
theorem encBl_at (don r : List Bool) (x : Bool) : (encBl (don ++ x :: r))[don.length]? = some (.bool x) := by simp [encBl]
set_option maxRecDepth 100000 in
theorem indexF_calls (Γ : Nat → Option (List AV)) (b : Bool) (F : FuncId) (hF : ∀ x h, ACalls Tryz.prog Γ F [.bool x] h fun v h' => h' = h ∧ v = .bool (decide (x = b))) (l : List Bool) (h : AH) (hl : l.length ≤ 9223372036854775807) :
    ACalls Tryz.prog Γ 40 [.sl (encBl l) .free, .func F [] []] h fun v h' => h' = h ∧ v = .int .i64 (fstB b 0 l) := by
  refine ACalls.drop ?_
  refine acalls_code (rs := [.tmp 4]) Tryz.func40 rfl rfl rfl rfl Ty.mixed (by kernel_rfl) ?_
  simp (disch := omega) only [go_sem, seval, encBl_len]
  refine awp_loopL (β := Unit) l [0, 1, 7, 8] (fun don _ => [(0, .sl (encBl l) .free), (1, .func F [] []), (7, .int .i64 l.length), (8, .int .i64 don.length)]) (fun _ => h) (fun don r _ => fstB b 0 l = fstB b don.length r) () ?_ rfl rfl Ty.mixed (by kernel_rfl) ?_ ?_
  · simp (disch := omega) only [go_sem, seval, List.length_nil]
  · rintro don x r _ hd hI
    have hlen : l.length = don.length + 1 + r.length := by rw [hd]; simp; omega
    have e1 : (encBl l)[don.length]? = some (.bool x) := by rw [hd]; exact encBl_at don r x
    rw [fstB] at hI
    simp (disch := omega) only [go_sem, seval, encBl_len]
    refine aIf.pos (by omega) ?_
    simp (disch := omega) only [go_sem, seval, e1, encBl_len]
    refine ACalls.det (hF x _) ?_
    simp (disch := omega) only [go_sem, seval]
    refine aIf.intro (fun h1 => ?_) (fun h1 => ?_) <;> simp (disch := omega) only [go_sem, seval]
    · rw [hI, if_pos h1]
    · refine roundL_next () ?_ ?_ rfl
      · rw [hI, if_neg h1, List.length_append]; rfl
      · simp (disch := omega) only [go_sem, seval, List.length_append]
  · rintro _ hI
    simp (disch := omega) only [go_sem, seval]
    refine AWP.keep [] (aCode_ok Ty.mixed _ _ _ _ (by kernel_rfl) ?_)
    simp (disch := omega) only [go_sem, seval]
    rw [hI]; rfl
theorem nd1_calls (Γ : Nat → Option (List AV)) (x : Bool) (h : AH) : ACalls Tryz.prog Γ 24 [.bool x] h fun v h' => h' = h ∧ v = .bool (decide (x = true)) := by
  refine ACalls.drop ?_
  refine acalls_code (rs := [.tmp 2]) Tryz.func24 rfl rfl rfl rfl Ty.mixed (by kernel_rfl) ?_
  simp (disch := omega) only [go_sem, seval]
  cases x <;> rfl
theorem nd2_calls (Γ : Nat → Option (List AV)) (x : Bool) (h : AH) : ACalls Tryz.prog Γ 25 [.bool x] h fun v h' => h' = h ∧ v = .bool (decide (x = false)) := by
  refine ACalls.drop ?_
  refine acalls_code (rs := [.tmp 2]) Tryz.func25 rfl rfl rfl rfl Ty.mixed (by kernel_rfl) ?_
  simp (disch := omega) only [go_sem, seval]
  cases x <;> rfl
theorem find_calls (Γ : Nat → Option (List AV)) (b : Bool) (F : FuncId) (hF : ∀ x h, ACalls Tryz.prog Γ F [.bool x] h fun v h' => h' = h ∧ v = .bool (decide (x = b))) (l : List Bool) (h : AH) (hl : l.length ≤ 9223372036854775807) :
    ACalls Tryz.prog Γ 23 [.sl (encBl l) .free, .func F [] []] h fun v h' => h' = h ∧ v = .int .i64 (fstB b 0 l) := by
  refine ACalls.drop ?_
  refine acalls_code (rs := [.tmp 4]) Tryz.func23 rfl rfl rfl rfl Ty.mixed (by kernel_rfl) ?_
  simp (disch := omega) only [go_sem, seval]
  refine ACalls.det (indexF_calls Γ b F hF l _ hl) ?_
  simp (disch := omega) only [go_sem, seval]
set_option maxRecDepth 100000 in
theorem needed_calls (Γ : Nat → Option (List AV)) (mode : Int) (l : List Bool) (h : AH) (hl : l.length ≤ 9223372036854775807) :
    ACalls Tryz.prog Γ 10 [.int .i64 mode, .sl (encBl l) .free] h fun v h' => h' = h ∧ v = .tuple [.sl (encI (needF mode l).1) .free, .bool (needF mode l).2.1, .int .i64 (needF mode l).2.2] := by
  refine ACalls.dropL ?_
  refine acalls_code (rs := [.tmp 4, .tmp 5, .tmp 6]) Tryz.func10 rfl rfl rfl rfl Ty.mixed (by kernel_rfl) ?_
  simp (disch := omega) only [go_sem, seval]
  refine ACalls.det (ncheck_calls Γ mode l _ hl) ?_
  simp (disch := omega) only [go_sem, seval]
  refine aIf.intro (fun h1 => ?_) (fun h1 => ?_) <;> simp (disch := omega) only [go_sem, seval]
  rotate_left
  · have hd : needF mode l = ([], false, errN mode l.length) := by rw [needF, if_pos h1]
    rw [hd]; rfl
  have hd : needF mode l = if mode = 4 ∧ 0 ≤ fstB true 0 l then ([fstB true 0 l], true, 0) else if mode = 3 ∧ 0 ≤ fstB false 0 l then ([fstB false 0 l], false, 0) else (upI l.length, togF mode l, 0) := by rw [needF, if_neg (by omega)]
  refine ACalls.det (find_calls Γ true _ (nd1_calls Γ) l _ hl) ?_
  simp (disch := omega) only [go_sem, seval]
  refine ACalls.det (find_calls Γ false _ (nd2_calls Γ) l _ hl) ?_
  simp (disch := omega) only [go_sem, seval]
  have hl3 : l.length ≤ 256 := by
    rw [errN] at h1
    split at h1 <;> (try split at h1) <;> omega
  refine aIf.intro (fun h2 => ?_) (fun h2 => ?_) <;> simp (disch := omega) only [go_sem, seval]
  · refine aIf.intro (fun h3 => ?_) (fun h3 => ?_) <;> simp (disch := omega) only [go_sem, seval]
    · rw [hd, if_pos ⟨h2, h3⟩]
      exact ⟨of_eq_true (rb_I _ [_]), rfl⟩
    rw [if_neg (fun e => h3 e.2), if_neg (by omega), togF, if_neg (by omega), if_pos h2, decide_eq_false h3] at hd
    refine aIf.neg (by omega) ?_
    simp (disch := omega) only [go_sem, seval]
    refine aIf.neg (by omega) ?_
    simp (disch := omega) only [go_sem, seval]
    refine aIf.pos h2 ?_
    simp (disch := omega) only [go_sem, seval, encBl_len]
    refine awp_loopL (β := Abs.Own × AH) l [4, 5, 55, 56] (fun don b => [(4, .sl (encI (upI don.length)) b.1), (5, .bool false), (55, .int .i64 l.length), (56, .int .i64 don.length)]) (fun b => h ++ b.2) (fun don _ b => OwnAt h b.2 don.length b.1) (.full, []) ?_ (by simp) trivial Ty.mixed (by kernel_rfl) ?_ ?_
    · simp (disch := omega) only [go_sem, seval, List.length_nil]
      rfl
    · rintro don x r ⟨own, X⟩ hdn hown
      simp only at hown ⊢
      have hlen : l.length = don.length + 1 + r.length := by rw [hdn]; simp; omega
      simp (disch := omega) only [go_sem, seval, encBl_len]
      refine aIf.pos (by omega) ?_
      simp (disch := omega) only [go_sem, seval]
      rw [← encI_one]
      refine aAp_sl (by rw [encI_len, upI_len]; exact hown) (rowsOK_I _) (rowsOK_I _) (by rw [encI_len, upI_len, encI_len]; simp; omega) (by rw [encI_len, upI_len, encI_len]; simp; omega) fun j' own' ho' hg => ?_
      simp (disch := omega) only [go_sem, seval]
      refine roundL_next (own', j') ?_ ?_ rfl
      · simpa [encI_len, upI_len] using ho'
      · simp (disch := omega) only [go_sem, seval, List.length_append, upI_app]
    · rintro ⟨own, X⟩ hown
      simp only at hown ⊢
      simp (disch := omega) only [go_sem, seval, encBl_len]
      refine AWP.keep [4, 5] (aCode_ok Ty.mixed _ _ _ _ (by kernel_rfl) ?_)
      simp (disch := omega) only [go_sem, seval]
      rw [hd]
  rw [if_neg (fun e => h2 e.1)] at hd
  refine aIf.intro (fun h3 => ?_) (fun h3 => ?_) <;> simp (disch := omega) only [go_sem, seval]
  · refine aIf.intro (fun h4 => ?_) (fun h4 => ?_) <;> simp (disch := omega) only [go_sem, seval]
    · rw [hd, if_pos ⟨h3, h4⟩]
      exact ⟨of_eq_true (rb_I _ [_]), rfl⟩
    have h5 : decide (0 < l.length ∧ fstB false 0 l < 0) = decide (0 ≤ fstB true 0 l) := by
      apply decide_eq_decide.2
      have k1 := (fstB_no false l 0).1 (by omega)
      have k2 := fstB_no true l 0
      cases l with
      | nil => simp [fstB]
      | cons x r =>
        have k3 : x = true := by simpa using k1 x (by simp)
        have k4 : ¬ fstB true 0 (x :: r) < 0 := fun e => k2.1 e x (by simp) k3
        simp only [List.length_cons]; omega
    rw [if_neg (fun e => h4 e.2), togF, if_pos h3, h5] at hd
    refine aIf.pos h3 ?_
    simp (disch := omega) only [go_sem, seval, encBl_len]
    refine awp_loopL (β := Abs.Own × AH) l [4, 5, 55, 56] (fun don b => [(4, .sl (encI (upI don.length)) b.1), (5, .bool (decide (0 ≤ fstB true 0 l))), (55, .int .i64 l.length), (56, .int .i64 don.length)]) (fun b => h ++ b.2) (fun don _ b => OwnAt h b.2 don.length b.1) (.full, []) ?_ (by simp) trivial Ty.mixed (by kernel_rfl) ?_ ?_
    · simp (disch := omega) only [go_sem, seval, List.length_nil]
      rfl
    · rintro don x r ⟨own, X⟩ hdn hown
      simp only at hown ⊢
      have hlen : l.length = don.length + 1 + r.length := by rw [hdn]; simp; omega
      simp (disch := omega) only [go_sem, seval, encBl_len]
      refine aIf.pos (by omega) ?_
      simp (disch := omega) only [go_sem, seval]
      rw [← encI_one]
      refine aAp_sl (by rw [encI_len, upI_len]; exact hown) (rowsOK_I _) (rowsOK_I _) (by rw [encI_len, upI_len, encI_len]; simp; omega) (by rw [encI_len, upI_len, encI_len]; simp; omega) fun j' own' ho' hg => ?_
      simp (disch := omega) only [go_sem, seval]
      refine roundL_next (own', j') ?_ ?_ rfl
      · simpa [encI_len, upI_len] using ho'
      · simp (disch := omega) only [go_sem, seval, List.length_append, upI_app]
    · rintro ⟨own, X⟩ hown
      simp only at hown ⊢
      simp (disch := omega) only [go_sem, seval, encBl_len]
      refine AWP.keep [4, 5] (aCode_ok Ty.mixed _ _ _ _ (by kernel_rfl) ?_)
      simp (disch := omega) only [go_sem, seval]
      rw [hd]
  rw [if_neg (fun e => h3 e.1), togF, if_neg h3, if_neg h2] at hd
  refine aIf.neg h3 ?_
  simp (disch := omega) only [go_sem, seval]
  refine aIf.neg h2 ?_
  simp (disch := omega) only [go_sem, seval, encBl_len]
  refine aIf.intro (fun h4 => ?_) (fun h4 => ?_) <;> simp (disch := omega) only [go_sem, seval, encBl_len]
  · obtain ⟨x, hx⟩ : ∃ x, l = [x] := by
      match l, h4 with
      | [x], _ => exact ⟨x, rfl⟩
      | [], e => simp at e
      | _ :: _ :: _, e => simp at e; omega
    have e1 : (encBl l)[0]? = some (.bool x) := by rw [hx]; rfl
    simp (disch := omega) only [go_sem, seval, e1, encBl_len]
    have e2 : decide (l = [true]) = x := by rw [hx]; cases x <;> rfl
    rw [e2] at hd
    refine awp_loopL (β := Abs.Own × AH) l [4, 5, 55, 56] (fun don b => [(4, .sl (encI (upI don.length)) b.1), (5, .bool x), (55, .int .i64 l.length), (56, .int .i64 don.length)]) (fun b => h ++ b.2) (fun don _ b => OwnAt h b.2 don.length b.1) (.full, []) ?_ (by simp) trivial Ty.mixed (by kernel_rfl) ?_ ?_
    · simp (disch := omega) only [go_sem, seval, List.length_nil]
      rfl
    · rintro don x r ⟨own, X⟩ hdn hown
      simp only at hown ⊢
      have hlen : l.length = don.length + 1 + r.length := by rw [hdn]; simp; omega
      simp (disch := omega) only [go_sem, seval, encBl_len]
      refine aIf.pos (by omega) ?_
      simp (disch := omega) only [go_sem, seval]
      rw [← encI_one]
      refine aAp_sl (by rw [encI_len, upI_len]; exact hown) (rowsOK_I _) (rowsOK_I _) (by rw [encI_len, upI_len, encI_len]; simp; omega) (by rw [encI_len, upI_len, encI_len]; simp; omega) fun j' own' ho' hg => ?_
      simp (disch := omega) only [go_sem, seval]
      refine roundL_next (own', j') ?_ ?_ rfl
      · simpa [encI_len, upI_len] using ho'
      · simp (disch := omega) only [go_sem, seval, List.length_append, upI_app]
    · rintro ⟨own, X⟩ hown
      simp only at hown ⊢
      simp (disch := omega) only [go_sem, seval, encBl_len]
      refine AWP.keep [4, 5] (aCode_ok Ty.mixed _ _ _ _ (by kernel_rfl) ?_)
      simp (disch := omega) only [go_sem, seval]
      rw [hd]
  · rw [decide_eq_false (fun e => h4 (by rw [e]; rfl))] at hd
    refine awp_loopL (β := Abs.Own × AH) l [4, 5, 55, 56] (fun don b => [(4, .sl (encI (upI don.length)) b.1), (5, .bool false), (55, .int .i64 l.length), (56, .int .i64 don.length)]) (fun b => h ++ b.2) (fun don _ b => OwnAt h b.2 don.length b.1) (.full, []) ?_ (by simp) trivial Ty.mixed (by kernel_rfl) ?_ ?_
    · simp (disch := omega) only [go_sem, seval, List.length_nil]
      rfl
    · rintro don x r ⟨own, X⟩ hdn hown
      simp only at hown ⊢
      have hlen : l.length = don.length + 1 + r.length := by rw [hdn]; simp; omega
      simp (disch := omega) only [go_sem, seval, encBl_len]
      refine aIf.pos (by omega) ?_
      simp (disch := omega) only [go_sem, seval]
      rw [← encI_one]
      refine aAp_sl (by rw [encI_len, upI_len]; exact hown) (rowsOK_I _) (rowsOK_I _) (by rw [encI_len, upI_len, encI_len]; simp; omega) (by rw [encI_len, upI_len, encI_len]; simp; omega) fun j' own' ho' hg => ?_
      simp (disch := omega) only [go_sem, seval]
      refine roundL_next (own', j') ?_ ?_ rfl
      · simpa [encI_len, upI_len] using ho'
      · simp (disch := omega) only [go_sem, seval, List.length_append, upI_app]
    · rintro ⟨own, X⟩ hown
      simp only at hown ⊢
      simp (disch := omega) only [go_sem, seval, encBl_len]
      refine AWP.keep [4, 5] (aCode_ok Ty.mixed _ _ _ _ (by kernel_rfl) ?_)
      simp (disch := omega) only [go_sem, seval]
      rw [hd]
end Go.Proofs.YtjdhgaflenhljaaGreatDoor

/- Decide; the reference's Decide, Needed, SameInts. No conditions. -/
set_option linter.unusedSimpArgs false
set_option linter.unusedVariables false
namespace Go.Proofs.YtjdhgaflenhljaaGreatDoor
open Go Go.Proofs Go.Abs

theorem decide_calls (Γ : Nat → Option (List AV)) (mode : Int) (l : List Bool) (h : AH) (hl : l.length ≤ 9223372036854775807) :
    ACalls Tryz.prog Γ 11 [.int .i64 mode, .sl (encBl l) .free] h fun v h' => h' = h ∧ v = .tuple [.bool (decF mode l).1, .int .i64 (decF mode l).2] := by
  refine ACalls.drop ?_
  refine acalls_code (rs := [.tmp 4, .tmp 5]) Tryz.func11 rfl rfl rfl rfl Ty.mixed (by kernel_rfl) ?_
  simp (disch := omega) only [go_sem, seval]
  refine ACalls.det (needed_calls Γ mode l _ hl) ?_
  simp (disch := omega) only [go_sem, seval]
  rw [need_dec]
set_option maxRecDepth 100000 in
theorem sameInts_calls (Γ : Nat → Option (List AV)) (a b : List Int) (h : AH) (ha : a.length ≤ 9223372036854775807) (hb : b.length ≤ 9223372036854775807) :
    ACalls Tryz.prog Γ 8 [.sl (encI a) .free, .sl (encI b) .free] h fun v h' => h' = h ∧ v = .bool (decide (a = b)) := by
  refine ACalls.drop ?_
  refine acalls_code (rs := [.tmp 4]) Tryz.func8 rfl rfl rfl rfl Ty.mixed (by kernel_rfl) ?_
  simp (disch := omega) only [go_sem, seval, encI_len]
  refine aIf.intro (fun h1 => ?_) (fun h1 => ?_) <;> simp (disch := omega) only [go_sem, seval]
  rotate_left
  · rw [decide_eq_false (fun e => h1 (by rw [e]))]
  refine awp_loopL (β := Unit) a [0, 1, 5] (fun don _ => [(0, .sl (encI a) .free), (1, .sl (encI b) .free), (5, .int .i64 don.length)]) (fun _ => h) (fun don r _ => b.take don.length = don) () ?_ rfl rfl Ty.mixed (by kernel_rfl) ?_ ?_
  · simp (disch := omega) only [go_sem, seval, List.length_nil]
  · rintro don x r _ hd hI
    have hlen : a.length = don.length + 1 + r.length := by rw [hd]; simp; omega
    have e1 : (encI a)[don.length]? = some (.int .i64 x) := by rw [hd]; exact encI_get don r x
    obtain ⟨y, hy⟩ : ∃ y, b[don.length]? = some y := ⟨b[don.length]'(by omega), List.getElem?_eq_getElem _⟩
    have e2 : (encI b)[don.length]? = some (.int .i64 y) := by rw [encI, List.getElem?_map, hy]; rfl
    simp (disch := omega) only [go_sem, seval, encI_len]
    refine aIf.pos (by omega) ?_
    simp (disch := omega) only [go_sem, seval, e1, e2, encI_len]
    refine aIf.intro (fun h2 => ?_) (fun h2 => ?_) <;> simp (disch := omega) only [go_sem, seval]
    · refine roundL_next () ?_ ?_ rfl
      · rw [List.length_append, List.length_singleton, List.take_add_one, hI, hy, h2]; rfl
      · simp (disch := omega) only [go_sem, seval, List.length_append]
    · rw [decide_eq_false]
      intro e
      rw [e] at hd
      rw [hd] at hy
      simp at hy
      exact h2 (by omega)
  · rintro _ hI
    simp (disch := omega) only [go_sem, seval, encI_len]
    refine AWP.keep [] (aCode_ok Ty.mixed _ _ _ _ (by kernel_rfl) ?_)
    simp (disch := omega) only [go_sem, seval]
    rw [decide_eq_true]
    rw [← hI, List.take_of_length_le (by omega)]
end Go.Proofs.YtjdhgaflenhljaaGreatDoor
