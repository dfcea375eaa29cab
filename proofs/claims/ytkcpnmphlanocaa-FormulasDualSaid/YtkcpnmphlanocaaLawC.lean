/- Formulas: what holds of counting, dual formulas and people. No program in sight; no conditions. -/
import Derived.Test.YtkcpnmphlanocaaLawB
set_option linter.unusedSimpArgs false
set_option linter.unusedVariables false
namespace Go.Proofs.Ytkcpnmphlanocaa
open Go Go.Proofs Go.Abs

theorem check0 (g : Gt) : checkF g = 0 ↔ deeperF 16 g = false ∧ allLeaves g ≤ 256 ∧ rightF g = true := by
  have h1 := leaves_all g 256 (by omega)
  unfold checkF
  by_cases hd : deeperF 16 g = true
  · simp [hd]
  · simp only [Bool.not_eq_true] at hd
    by_cases hl : leaves g 256 > 256
    · simp [hd, hl]; omega
    · have : allLeaves g ≤ 256 := by omega
      by_cases hr : rightF g = true <;> simp [hd, hl, hr, this]

theorem deeper_mono : ∀ (d : Nat) (g : Gt), deeperF (d + 1) g = true → deeperF d g = true
  | 0, _, _ => rfl
  | d + 1, g, h => by
    rw [deeperF, List.any_eq_true] at h ⊢
    obtain ⟨x, hx, hd⟩ := h
    exact ⟨x, hx, deeper_mono d x hd⟩
theorem allLeavesL_sum (l : List Gt) : allLeavesL l = (l.map allLeaves).sum := by
  induction l with
  | nil => simp [allLeavesL]
  | cons x r ih => simp [allLeavesL, ih]
theorem allLeavesL_perm {l m : List Gt} (h : l.Perm m) : allLeavesL l = allLeavesL m := by
  induction h with
  | nil => rfl
  | cons x _ ih => rw [allLeavesL, allLeavesL, ih]
  | swap x y l => simp only [allLeavesL]; omega
  | trans _ _ h1 h2 => rw [h1, h2]
theorem allLeavesL_app (l m : List Gt) : allLeavesL (l ++ m) = allLeavesL l + allLeavesL m := by
  induction l with
  | nil => simp [allLeavesL]
  | cons x r ih => simp [allLeavesL, ih]; omega
theorem allLeavesL_mem {l : List Gt} {x : Gt} (h : x ∈ l) : allLeaves x ≤ allLeavesL l := by
  induction l with
  | nil => cases h
  | cons y r ih =>
    have h1 := allLeaves_pos y
    have h2 := allLeavesL_pos r
    rw [allLeavesL]
    rcases List.mem_cons.1 h with rfl | h
    · omega
    · have := ih h; omega
theorem allLeaves_mk (p n : Int) (l : List Gt) : allLeaves (.mk p n l) = if l = [] then 1 else allLeavesL l := by
  rw [allLeaves]; cases l <;> simp

theorem right_mk {p n : Int} {l : List Gt} (hp : ¬ 0 ≤ p) : rightF (.mk p n l) = true ↔ p = -1 ∧ 1 ≤ n ∧ n ≤ 4096 ∧ ∀ x ∈ l, rightF x = true := by
  simp [rightF, hp, rightL_all, and_assoc]

/-- An element of a right formula is right. -/
theorem check_mem {p n : Int} {l : List Gt} (hp : ¬ 0 ≤ p) (h : checkF (.mk p n l) = 0) {x : Gt} (hx : x ∈ l) : checkF x = 0 := by
  obtain ⟨h1, h2, h3⟩ := (check0 _).1 h
  refine (check0 x).2 ⟨?_, ?_, ((right_mk hp).1 h3).2.2.2 x hx⟩
  · cases hd : deeperF 16 x with
    | false => rfl
    | true =>
      rw [deeperF, Gt.l, List.any_eq_false] at h1
      exact absurd (deeper_mono 15 x hd) (h1 x hx)
  · rw [allLeaves_mk] at h2
    have := allLeavesL_mem hx
    split at h2
    · subst l; cases hx
    · omega

theorem cntF_count (W : Int → Bool) : ∀ (l : List Gt) (n : Int), 1 ≤ n → cntF W l n = decide (n ≤ ((l.filter (holdsF W)).length : Int))
  | [], n, h => by rw [cntF, eq_comm, decide_eq_false_iff_not, List.filter_nil, List.length_nil]; omega
  | x :: r, n, h => by
    rw [cntF]
    by_cases hx : holdsF W x = true
    · rw [if_pos hx, List.filter_cons_of_pos hx]
      by_cases hn : n - 1 = 0
      · rw [if_pos hn]; simp; omega
      · rw [if_neg hn, cntF_count W r (n - 1) (by omega)]
        rw [decide_eq_decide]; simp; omega
    · rw [if_neg hx, List.filter_cons_of_neg hx, cntF_count W r n h]
theorem holdsF_gate (W : Int → Bool) {p n : Int} {l : List Gt} (hp : ¬ 0 ≤ p) (hn : 1 ≤ n) : holdsF W (.mk p n l) = decide (n ≤ ((l.filter (holdsF W)).length : Int)) := by
  rw [holdsF, if_neg hp, cntF_count W l n hn]

/-! ### People -/
def pplI (b : Int) : List Int := (peopleF b).map fun i : Nat => (i : Int)
theorem encP_I (b : Int) : encP (peopleF b) = encI (pplI b) := by simp [encP, encI, pplI]
theorem mem_ppl (b p : Int) : p ∈ pplI b ↔ 0 ≤ p ∧ p < 64 ∧ bitOf b p.toNat = true := by
  unfold pplI peopleF
  simp only [List.mem_map, List.mem_filter, List.mem_range]
  constructor
  · rintro ⟨i, ⟨h1, h2⟩, rfl⟩
    exact ⟨by omega, by omega, by simpa using h2⟩
  · rintro ⟨h1, h2, h3⟩
    exact ⟨p.toNat, ⟨by omega, h3⟩, by omega⟩
theorem ascF_of : ∀ (l : List Nat) (last : Int), (∀ i ∈ l, last < (i : Int) ∧ i < 64) → l.Pairwise (· < ·) → ascF last (l.map fun i : Nat => (i : Int)) = true
  | [], _, _, _ => rfl
  | i :: r, last, h, hp => by
    obtain ⟨h1, h2⟩ := h i (List.mem_cons_self ..)
    rw [List.pairwise_cons] at hp
    simp only [List.map_cons, ascF, Bool.and_eq_true, decide_eq_true_eq]
    exact ⟨⟨h1, by omega⟩, ascF_of r i (fun j hj => ⟨by have := hp.1 j hj; omega, (h j (List.mem_cons_of_mem _ hj)).2⟩) hp.2⟩
theorem asc_ppl (b : Int) : ascF (-1) (pplI b) = true := by
  refine ascF_of _ _ (fun i hi => ?_) (List.Pairwise.filter _ List.pairwise_lt_range)
  have := (List.mem_filter.1 hi).1
  rw [List.mem_range] at this
  omega
theorem len_ppl (b : Int) : (pplI b).length ≤ 9223372036854775807 := by
  have h1 : (pplI b).length ≤ 64 := by
    unfold pplI peopleF
    rw [List.length_map]
    exact Nat.le_trans (List.length_filter_le ..) (by rw [List.length_range]; exact Nat.le_refl _)
  omega
def WB (b : Int) : Int → Bool := fun p => decide (p ∈ pplI b)
theorem holdsR_ppl {g : Gt} (h : checkF g = 0) (b : Int) : holdsR g (pplI b) = (holdsF (WB b) g, 0) := by
  rw [holdsR, if_pos h, if_pos (asc_ppl b)]; rfl

/-! ### A gate counts -/
theorem perm_check {p n : Int} {l m : List Gt} (hp : ¬ 0 ≤ p) (hm : m.Perm l) (h : checkF (.mk p n l) = 0) : checkF (.mk p n m) = 0 := by
  obtain ⟨h1, h2, h3⟩ := (check0 _).1 h
  refine (check0 _).2 ⟨?_, ?_, ?_⟩
  · rw [deeperF, Gt.l] at h1 ⊢
    rw [List.any_eq_false] at h1 ⊢
    exact fun x hx => h1 x (hm.mem_iff.1 hx)
  · have e : allLeavesL m = allLeavesL l := allLeavesL_perm hm
    rw [allLeaves_mk] at h2 ⊢
    rw [e]
    by_cases hl : l = []
    · subst hl; rw [List.perm_nil.1 hm]; simp
    · rw [if_neg (fun e => hl (by rw [e] at hm; exact List.nil_perm.1 hm))]
      rw [if_neg hl] at h2; exact h2
  · obtain ⟨k1, k2, k3, k4⟩ := (right_mk hp).1 h3
    exact (right_mk hp).2 ⟨k1, k2, k3, fun x hx => k4 x (hm.mem_iff.1 hx)⟩
theorem perm_holds (W : Int → Bool) {p n : Int} {l m : List Gt} (hp : ¬ 0 ≤ p) (hn : 1 ≤ n) (hm : m.Perm l) : holdsF W (.mk p n m) = holdsF W (.mk p n l) := by
  rw [holdsF_gate W hp hn, holdsF_gate W hp hn, (hm.filter _).length_eq]

/-! ### More people -/
mutual
theorem holdsF_mono {W V : Int → Bool} (h : ∀ p, W p = true → V p = true) : ∀ g : Gt, rightF g = true → holdsF W g = true → holdsF V g = true
  | .mk p n l, hr, hw => by
    by_cases hp : 0 ≤ p
    · rw [holdsF, if_pos hp] at hw ⊢; exact h p hw
    · obtain ⟨_, k2, _, k4⟩ := (right_mk hp).1 hr
      rw [holdsF_gate _ hp k2, decide_eq_true_eq] at hw ⊢
      have := filter_mono h l k4
      omega
theorem filter_mono {W V : Int → Bool} (h : ∀ p, W p = true → V p = true) : ∀ l : List Gt, (∀ x ∈ l, rightF x = true) → (l.filter (holdsF W)).length ≤ (l.filter (holdsF V)).length
  | [], _ => by simp
  | x :: r, hr => by
    have h1 := filter_mono h r (fun y hy => hr y (List.mem_cons_of_mem _ hy))
    have h2 := holdsF_mono h x (hr x (List.mem_cons_self ..))
    by_cases hx : holdsF W x = true
    · rw [List.filter_cons_of_pos hx, List.filter_cons_of_pos (h2 hx)]; simp; omega
    · rw [List.filter_cons_of_neg hx]
      refine Nat.le_trans h1 ?_
      rw [List.filter_cons]
      split <;> simp
end
mutual
theorem holdsF_none : ∀ g : Gt, rightF g = true → holdsF (fun _ => false) g = false
  | .mk p n l, hr => by
    by_cases hp : 0 ≤ p
    · rw [holdsF, if_pos hp]
    · obtain ⟨_, k2, _, k4⟩ := (right_mk hp).1 hr
      rw [holdsF_gate _ hp k2, decide_eq_false_iff_not, filter_none l k4]
      simp; omega
theorem filter_none : ∀ l : List Gt, (∀ x ∈ l, rightF x = true) → l.filter (holdsF fun _ => false) = []
  | [], _ => rfl
  | x :: r, hr => by
    rw [List.filter_cons_of_neg (by rw [holdsF_none x (hr x (List.mem_cons_self ..))]; simp)]
    exact filter_none r (fun y hy => hr y (List.mem_cons_of_mem _ hy))
end
mutual
def inG (q : Int) : Gt → Bool
  | .mk p _ l => decide (0 ≤ p ∧ p = q) || inL q l
def inL (q : Int) : List Gt → Bool
  | [] => false
  | x :: r => inG q x || inL q r
end
mutual
theorem holdsF_in {W V : Int → Bool} : ∀ g : Gt, (∀ p, inG p g = true → W p = V p) → rightF g = true → holdsF W g = holdsF V g
  | .mk p n l, h, hr => by
    by_cases hp : 0 ≤ p
    · rw [holdsF, holdsF, if_pos hp, if_pos hp]; exact h p (by simp [inG, hp])
    · obtain ⟨_, k2, _, k4⟩ := (right_mk hp).1 hr
      rw [holdsF_gate _ hp k2, holdsF_gate _ hp k2, filter_in l (fun p hq => h p (by simp [inG, hq])) k4]
theorem filter_in {W V : Int → Bool} : ∀ l : List Gt, (∀ p, inL p l = true → W p = V p) → (∀ x ∈ l, rightF x = true) → l.filter (holdsF W) = l.filter (holdsF V)
  | [], _, _ => rfl
  | x :: r, h, hr => by
    have h1 := holdsF_in x (fun p hp => h p (by simp [inL, hp])) (hr x (List.mem_cons_self ..))
    have h2 := filter_in r (fun p hp => h p (by simp [inL, hp])) (fun y hy => hr y (List.mem_cons_of_mem _ hy))
    rw [List.filter_cons, List.filter_cons, h1, h2]
end
end Go.Proofs.Ytkcpnmphlanocaa
