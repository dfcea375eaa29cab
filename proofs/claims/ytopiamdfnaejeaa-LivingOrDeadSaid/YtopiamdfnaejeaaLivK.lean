/- Who is needed: plain facts on formulas, people and their subsets. Plain. -/
import Derived.Test.YtopiamdfnaejeaaLivJ
set_option linter.unusedSimpArgs false
set_option linter.unusedVariables false
namespace Go.Proofs.Ytopiamdfnaejeaa
open Go Go.Proofs Go.Abs

/-! ### Lists of people in order -/
theorem ascF_iff : ∀ (l : List Int) (b : Int), ascF b l = true ↔ l.Pairwise (· < ·) ∧ ∀ x ∈ l, b < x ∧ x < 64
  | [], b => by simp [ascF]
  | y :: r, b => by
    rw [ascF, List.pairwise_cons]
    simp only [Bool.and_eq_true, decide_eq_true_eq, ascF_iff r y]
    constructor
    · rintro ⟨⟨h1, h2⟩, h3, h4⟩
      refine ⟨⟨fun z hz => (h4 z hz).1, h3⟩, fun z hz => ?_⟩
      rcases List.mem_cons.1 hz with rfl | hz
      · exact ⟨h1, h2⟩
      · have := h4 z hz; exact ⟨by omega, this.2⟩
    · rintro ⟨⟨h1, h2⟩, h3⟩
      have h4 := h3 y (by simp)
      exact ⟨⟨h4.1, h4.2⟩, h2, fun z hz => ⟨h1 z hz, (h3 z (by simp [hz])).2⟩⟩
theorem ascF_sub {a b : List Int} (h : a.Sublist b) (hb : ascF (-1) b = true) : ascF (-1) a = true := by
  rw [ascF_iff] at hb ⊢
  exact ⟨hb.1.sublist h, fun x hx => hb.2 x (h.subset hx)⟩
theorem ascF_filter {l : List Int} (p : Int → Bool) (h : ascF (-1) l = true) : ascF (-1) (l.filter p) = true := ascF_sub List.filter_sublist h
theorem sub_of_asc : ∀ (b a : List Int), a.Pairwise (· < ·) → b.Pairwise (· < ·) → (∀ x ∈ a, x ∈ b) → a.Sublist b
  | [], a, _, _, h => by
    cases a with
    | nil => exact .slnil
    | cons x a => exact absurd (h x (by simp)) (by simp)
  | y :: b, [], _, _, _ => List.nil_sublist _
  | y :: b, x :: a, ha, hb, h => by
    have ha0 := ha
    rw [List.pairwise_cons] at ha hb
    by_cases hxy : x = y
    · subst hxy
      refine .cons_cons _ (sub_of_asc b a ha.2 hb.2 fun z hz => ?_)
      rcases List.mem_cons.1 (h z (by simp [hz])) with e | e
      · have := ha.1 z hz; omega
      · exact e
    · refine .cons _ (sub_of_asc b (x :: a) ha0 hb.2 fun z hz => ?_)
      have hxb : x ∈ b := by
        rcases List.mem_cons.1 (h x (by simp)) with e | e
        · exact absurd e hxy
        · exact e
      rcases List.mem_cons.1 (h z hz) with e | e
      · have h1 := hb.1 x hxb
        rcases List.mem_cons.1 hz with e2 | e2
        · omega
        · have := ha.1 z e2; omega
      · exact e
theorem asc_pw {l : List Int} (h : ascF (-1) l = true) : l.Pairwise (· < ·) := ((ascF_iff l _).1 h).1

/-! ### More people -/
theorem right_gate {p n : Int} {l : List Gt} (hp : ¬ 0 ≤ p) (h : rightF (.mk p n l) = true) : 1 ≤ n ∧ rightL l = true := by
  simp only [rightF, if_neg hp, Bool.and_eq_true, decide_eq_true_eq] at h
  exact ⟨h.1.1.2, h.2⟩
mutual
def inG (q : Int) : Gt → Bool
  | .mk p _ l => decide (0 ≤ p ∧ p = q) || inL q l
def inL (q : Int) : List Gt → Bool
  | [] => false
  | x :: r => inG q x || inL q r
end
mutual
theorem holds_sub {W V : Int → Bool} : ∀ g : Gt, (∀ p, inG p g = true → W p = true → V p = true) → rightF g = true → holdsF W g = true → holdsF V g = true
  | .mk p n l, h, hr, hw => by
    by_cases hp : 0 ≤ p
    · rw [holdsF, if_pos hp] at hw ⊢; exact h p (by simp [inG, hp]) hw
    · obtain ⟨k2, k4⟩ := right_gate hp hr
      rw [holdsF, if_neg hp] at hw ⊢
      exact cnt_sub l n n (fun p hq => h p (by simp [inG, hq])) k4 (Int.le_refl _) k2 hw
theorem cnt_sub {W V : Int → Bool} : ∀ (l : List Gt) (n m : Int), (∀ p, inL p l = true → W p = true → V p = true) → rightL l = true → m ≤ n → 1 ≤ m → cntF W l n = true → cntF V l m = true
  | [], n, m, _, _, _, _, hw => by simp [cntF] at hw
  | x :: r, n, m, h, hr, hmn, hm, hw => by
    simp only [rightL, Bool.and_eq_true] at hr
    have hx := holds_sub x (fun p hp => h p (by simp [inL, hp])) hr.1
    have hr' := fun n m => cnt_sub r n m (fun p hp => h p (by simp [inL, hp])) hr.2
    rw [cntF] at hw ⊢
    by_cases h1 : holdsF W x = true
    · rw [if_pos (hx h1)]
      rw [if_pos h1] at hw
      split
      · rfl
      · rename_i h2
        rw [if_neg (by omega)] at hw
        exact hr' (n - 1) (m - 1) (by omega) (by omega) hw
    · rw [if_neg h1] at hw
      split
      · split
        · rfl
        · rename_i h2
          exact hr' n (m - 1) (by omega) (by omega) hw
      · exact hr' n m hmn hm hw
end
mutual
theorem holds_none : ∀ g : Gt, rightF g = true → holdsF (fun _ => false) g = false
  | .mk p n l, hr => by
    by_cases hp : 0 ≤ p
    · rw [holdsF, if_pos hp]
    · obtain ⟨k2, k4⟩ := right_gate hp hr
      rw [holdsF, if_neg hp]
      exact cnt_none l n k4
theorem cnt_none : ∀ (l : List Gt) (n : Int), rightL l = true → cntF (fun _ => false) l n = false
  | [], _, _ => rfl
  | x :: r, n, hr => by
    simp only [rightL, Bool.and_eq_true] at hr
    rw [cntF, holds_none x hr.1]
    exact cnt_none r n hr.2
end
theorem mem_addK (n x : Int) (ks : List Int) : x ∈ addK n ks ↔ x ∈ ks ∨ x = n := by
  unfold addK
  split
  · rename_i h
    exact ⟨.inl, fun e => e.elim id fun e => by subst e; exact h⟩
  · simp
mutual
theorem mem_keys (x : Int) : ∀ (g : Gt) (ks : List Int), x ∈ keysF ks g ↔ x ∈ ks ∨ inG x g = true
  | .mk p n l, ks => by
    rw [keysF, mem_keysL x l, inG]
    split
    · rename_i hp; rw [mem_addK, eq_comm (a := x)]; simp [hp, or_assoc]
    · rename_i hp; simp [hp]
theorem mem_keysL (x : Int) : ∀ (l : List Gt) (ks : List Int), x ∈ keysL ks l ↔ x ∈ ks ∨ inL x l = true
  | [], ks => by simp [keysL, inL]
  | y :: r, ks => by rw [keysL, mem_keysL x r, mem_keys x y, inL]; simp [or_assoc]
end
theorem addK_nodup {n : Int} {ks : List Int} (h : ks.Nodup) : (addK n ks).Nodup := by
  unfold addK
  split
  · exact h
  · rename_i hn
    rw [List.nodup_append]
    exact ⟨h, by simp, fun a ha b hb e => by simp at hb; subst hb; subst e; exact hn ha⟩
mutual
theorem keys_nodup : ∀ (g : Gt) (ks : List Int), ks.Nodup → (keysF ks g).Nodup
  | .mk p n l, ks, h => by
    rw [keysF]
    split
    · exact keys_nodupL l _ (addK_nodup h)
    · exact keys_nodupL l _ h
theorem keys_nodupL : ∀ (l : List Gt) (ks : List Int), ks.Nodup → (keysL ks l).Nodup
  | [], _, h => h
  | x :: r, ks, h => by rw [keysL]; exact keys_nodupL r _ (keys_nodup x ks h)
end
mutual
theorem in_right (x : Int) : ∀ g : Gt, rightF g = true → inG x g = true → 0 ≤ x ∧ x < 64
  | .mk p n l, hr, hi => by
    by_cases hp : 0 ≤ p
    · simp only [rightF, if_pos hp, Bool.and_eq_true, List.isEmpty_iff, decide_eq_true_eq] at hr
      obtain ⟨⟨h1, h2⟩, rfl⟩ := hr
      simp [inG, inL] at hi; omega
    · obtain ⟨k2, k4⟩ := right_gate hp hr
      simp only [inG, Bool.or_eq_true, decide_eq_true_eq] at hi
      exact in_rightL x l k4 (hi.resolve_left fun e => hp e.1)
theorem in_rightL (x : Int) : ∀ l : List Gt, rightL l = true → inL x l = true → 0 ≤ x ∧ x < 64
  | [], _, hi => by simp [inL] at hi
  | y :: r, hr, hi => by
    simp only [rightL, Bool.and_eq_true] at hr
    simp only [inL, Bool.or_eq_true] at hi
    exact hi.elim (in_right x y hr.1) (in_rightL x r hr.2)
end
theorem mem_ppl {g : Gt} (h : rightF g = true) (x : Int) : x ∈ pplF g ↔ inG x g = true := by
  rw [← peo_ppl h]
  unfold peoF
  rw [(sortI_perm _).mem_iff, mem_keys]; simp
theorem asc_ppl {g : Gt} (h : rightF g = true) : ascF (-1) (pplF g) = true := by
  rw [ascF_iff]
  constructor
  · rw [← peo_ppl h]
    have h1 := sortI_le (keysF [] g)
    have h2 : (sortI (keysF [] g)).Nodup := (sortI_perm _).nodup_iff.2 (keys_nodup g [] .nil)
    exact (h1.and h2).imp fun h => by omega
  · intro x hx
    have := in_right x g h ((mem_ppl h x).1 hx)
    exact ⟨by omega, this.2⟩
theorem permF_asc {g : Gt} {s : List Int} (h : checkF g = 0) (hs : ascF (-1) s = true) : holdsR g s = (permF g s, 0) ∧ permF g s = holdsF (fun p => decide (p ∈ s)) g := by
  simp [permF, holdsR, h, hs]
/-- Whoever may still may when more of the formula's people are there. -/
theorem perm_sub {g : Gt} {s t : List Int} (h : checkF g = 0) (hs : ascF (-1) s = true) (ht : ascF (-1) t = true) (hst : ∀ x ∈ pplF g, x ∈ s → x ∈ t) (hp : permF g s = true) : permF g t = true := by
  have hr := checkF_right h
  rw [(permF_asc h hs).2] at hp
  rw [(permF_asc h ht).2]
  exact holds_sub g (fun p hp h1 => by simp at h1 ⊢; exact hst p ((mem_ppl hr p).2 hp) h1) hr hp
theorem perm_eq {g : Gt} {s t : List Int} (h : checkF g = 0) (hs : ascF (-1) s = true) (ht : ascF (-1) t = true) (hst : ∀ x ∈ pplF g, x ∈ s ↔ x ∈ t) : permF g s = permF g t := by
  rw [Bool.eq_iff_iff]
  exact ⟨perm_sub h hs ht fun x hx => (hst x hx).1, perm_sub h ht hs fun x hx => (hst x hx).2⟩
theorem perm_none {g : Gt} (h : checkF g = 0) : permF g [] = false := by
  rw [(permF_asc h (by simp [ascF])).2]
  simpa using holds_none g (checkF_right h)

/-! ### All subsets, the least first -/
theorem mem_subs : ∀ (l s : List Int), s ∈ subsF l ↔ s.Sublist l
  | [], s => by simp [subsF]
  | x :: r, s => by
    rw [subsF, List.mem_append, List.mem_map, List.sublist_cons_iff, mem_subs r s]
    constructor
    · rintro (⟨t, ht, rfl⟩ | h)
      · exact .inr ⟨t, rfl, (mem_subs r t).1 ht⟩
      · exact .inl h
    · rintro (h | ⟨t, rfl, ht⟩)
      · exact .inr h
      · exact .inl ⟨t, (mem_subs r t).2 ht, rfl⟩
theorem mem_all (l s : List Int) : s ∈ allF l ↔ s.Sublist l := by
  unfold allF allUp
  rw [List.mem_flatMap]
  constructor
  · rintro ⟨k, hk, hs⟩
    rw [← subs_choose, List.mem_filter] at hs
    exact (mem_subs l s).1 hs.1
  · intro h
    refine ⟨s.length, by rw [List.mem_range]; have := h.length_le; omega, ?_⟩
    rw [← subs_choose, List.mem_filter]
    exact ⟨(mem_subs l s).2 h, by simp⟩
def befF : List Int → List Int → Bool
  | [], _ => false
  | _ :: _, [] => false
  | x :: a, y :: b => if x = y then befF a b else decide (x < y)
theorem bef_asymm : ∀ (a b : List Int), befF a b = true → befF b a = false
  | [], _, h => by simp [befF] at h
  | _ :: _, [], h => by simp [befF] at h
  | x :: a, y :: b, h => by
    rw [befF] at h ⊢
    split at h
    · rename_i e; rw [if_pos e.symm]; exact bef_asymm a b h
    · rename_i e; rw [if_neg (fun k => e k.symm)]; simp at h ⊢; omega
theorem bef_irr : ∀ a : List Int, befF a a = false
  | [] => rfl
  | x :: a => by rw [befF, if_pos rfl]; exact bef_irr a
theorem choose_in : ∀ (l : List Int) (k : Nat) (s : List Int), s ∈ chooseF l k → s.Sublist l := fun l k s h => by
  rw [← subs_choose, List.mem_filter] at h
  exact (mem_subs l s).1 h.1
theorem choose_pw : ∀ (l : List Int) (k : Nat), l.Pairwise (· < ·) → (chooseF l k).Pairwise fun a b => befF a b = true
  | l, 0, _ => by cases l <;> simp [chooseF]
  | [], k + 1, _ => by simp [chooseF]
  | x :: r, k + 1, h => by
    rw [List.pairwise_cons] at h
    rw [chooseF, List.pairwise_append]
    refine ⟨?_, choose_pw r (k + 1) h.2, ?_⟩
    · rw [List.pairwise_map]
      exact (choose_pw r k h.2).imp fun {a b} hab => by rw [befF, if_pos rfl]; exact hab
    · intro a ha b hb
      obtain ⟨t, _, rfl⟩ := List.mem_map.1 ha
      have h1 := choose_mem r (k + 1) b hb
      have h2 := (choose_in r (k + 1) b hb).subset
      cases b with
      | nil => simp at h1
      | cons y b =>
        have := h.1 y (h2 (by simp))
        rw [befF, if_neg (by omega)]; simpa using this
theorem up_pw (l : List Int) (hl : l.Pairwise (· < ·)) : ∀ m, (allUp l m).Pairwise fun a b => a.length ≤ b.length ∧ (a.length = b.length → befF a b = true)
  | 0 => by simp [allUp]
  | m + 1 => by
    have e : allUp l (m + 1) = allUp l m ++ chooseF l m := by simp [allUp, List.range_succ]
    rw [e, List.pairwise_append]
    refine ⟨up_pw l hl m, ?_, ?_⟩
    · refine (choose_pw l m hl).imp_of_mem fun {a b} ha hb hab => ?_
      rw [choose_mem l m a ha, choose_mem l m b hb]
      exact ⟨Nat.le_refl _, fun _ => hab⟩
    · intro a ha b hb
      simp only [allUp, List.mem_flatMap, List.mem_range] at ha
      obtain ⟨k, hk, ha⟩ := ha
      rw [choose_mem l k a ha, choose_mem l m b hb]
      exact ⟨by omega, fun e => by omega⟩
/-- What is found first is least. -/
theorem first_least {l : List Int} (hl : l.Pairwise (· < ·)) {p : List Int → Bool} {s t : List Int} (hf : (allF l).find? p = some s) (ht : t.Sublist l) (hp : p t = true) : s.length ≤ t.length ∧ (s.length = t.length → befF t s = false) := by
  obtain ⟨hps, xs, ys, he, hx⟩ := List.find?_eq_some_iff_append.1 hf
  have hm := (mem_all l t).2 ht
  have hpw : (allF l).Pairwise _ := up_pw l hl (l.length + 1)
  rw [he] at hm hpw
  rw [List.pairwise_append, List.pairwise_cons] at hpw
  rcases List.mem_append.1 hm with hm | hm
  · have := hx t hm; rw [hp] at this; simp at this
  · rcases List.mem_cons.1 hm with rfl | hm
    · exact ⟨Nat.le_refl _, fun _ => bef_irr _⟩
    · have := hpw.2.1.1 t hm
      exact ⟨this.1, fun e => bef_asymm _ _ (this.2 e)⟩
theorem first_some {l : List Int} {p : List Int → Bool} {s : List Int} (hf : (allF l).find? p = some s) : s.Sublist l ∧ p s = true :=
  ⟨(mem_all l s).1 (List.mem_of_find?_eq_some hf), List.find?_some hf⟩
theorem first_none {l : List Int} {p : List Int → Bool} (hf : (allF l).find? p = none) {s : List Int} (hs : s.Sublist l) : p s = false := by
  have := List.find?_eq_none.1 hf s ((mem_all l s).2 hs)
  simpa using this
end Go.Proofs.Ytopiamdfnaejeaa
