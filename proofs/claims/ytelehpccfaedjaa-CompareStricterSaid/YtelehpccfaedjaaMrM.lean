/- Texts joined: LivJ, LivK, LivL, LivM, LivN, LivO. No conditions. -/
import Derived.Test.YtelehpccfaedjaaMrL
/- The laws LivingSpec and LivingMarginSpec: the code. No conditions. -/
set_option linter.unusedSimpArgs false
set_option linter.unusedVariables false
namespace Go.Proofs.Ytelehpccfaedjaa
open Go Go.Proofs Go.Abs

theorem firstF_len (l : List Int) (p : List Int → Bool) : (firstF (allF l) p).1.length ≤ l.length := by
  unfold firstF
  split
  · rename_i s hs; exact allF_len (List.mem_of_find?_eq_some hs)
  · simp
theorem livR_len (g : Gt) (al : List Int) : (livR g al).1.length ≤ 12 := by
  unfold livR
  split
  · rename_i h
    exact Nat.le_trans (firstF_len _ _) (Nat.le_trans (bothF_len _ _) (errF_facts (err51_facts h).1).2.2)
  · simp
theorem marR_len (g : Gt) (al : List Int) : (marR g al).1.length ≤ 12 := by
  unfold marR
  split
  · rename_i h
    split
    · exact Nat.le_trans (firstF_len _ _) (Nat.le_trans (bothF_len _ _) (errF_facts (err51_facts h).1).2.2)
    · simp
  · simp
theorem deaR_len (g : Gt) (al : List Int) : (deaR g al).1.length ≤ 12 := by
  unfold deaR
  split
  · rename_i h
    split
    · simp
    · exact Nat.le_trans (firstF_len _ _) (Nat.le_trans (wtF_len _ _) (errF_facts (err51_facts h).1).2.2)
  · simp
end Go.Proofs.Ytelehpccfaedjaa

/- Who is needed: plain facts on formulas, people and their subsets. Plain. -/
set_option linter.unusedSimpArgs false
set_option linter.unusedVariables false
namespace Go.Proofs.Ytelehpccfaedjaa
open Go Go.Proofs Go.Abs

/-! ### Lists of people in order -/
theorem ascF_iff : ∀ (l : List Int) (b : Int), ascF b l = true ↔ l.Pairwise (· < ·) ∧ ∀ x ∈ l, b < x ∧ x < 64
  | [], b => by simp [ascF]
  | y :: r, b => by
    rw [ascF, List.pairwise_cons]
    simp only [Bool.and_eq_true, decide_eq_true_eq, ascF_iff r y]
    constructor
    · rintro ⟨⟨h1, h2⟩, h3, h4⟩
      refine ⟨⟨fun z hz => (h4 z hz).1, h3⟩, fun z hz => ?_⟩
      rcases List.mem_cons.1 hz with rfl | hz
      · exact ⟨h1, h2⟩
      · have := h4 z hz; exact ⟨by omega, this.2⟩
    · rintro ⟨⟨h1, h2⟩, h3⟩
      have h4 := h3 y (by simp)
      exact ⟨⟨h4.1, h4.2⟩, h2, fun z hz => ⟨h1 z hz, (h3 z (by simp [hz])).2⟩⟩
theorem ascF_sub {a b : List Int} (h : a.Sublist b) (hb : ascF (-1) b = true) : ascF (-1) a = true := by
  rw [ascF_iff] at hb ⊢
  exact ⟨hb.1.sublist h, fun x hx => hb.2 x (h.subset hx)⟩
theorem ascF_filter {l : List Int} (p : Int → Bool) (h : ascF (-1) l = true) : ascF (-1) (l.filter p) = true := ascF_sub List.filter_sublist h
theorem sub_of_asc : ∀ (b a : List Int), a.Pairwise (· < ·) → b.Pairwise (· < ·) → (∀ x ∈ a, x ∈ b) → a.Sublist b
  | [], a, _, _, h => by
    cases a with
    | nil => exact .slnil
    | cons x a => exact absurd (h x (by simp)) (by simp)
  | y :: b, [], _, _, _ => List.nil_sublist _
  | y :: b, x :: a, ha, hb, h => by
    have ha0 := ha
    rw [List.pairwise_cons] at ha hb
    by_cases hxy : x = y
    · subst hxy
      refine .cons_cons _ (sub_of_asc b a ha.2 hb.2 fun z hz => ?_)
      rcases List.mem_cons.1 (h z (by simp [hz])) with e | e
      · have := ha.1 z hz; omega
      · exact e
    · refine .cons _ (sub_of_asc b (x :: a) ha0 hb.2 fun z hz => ?_)
      have hxb : x ∈ b := by
        rcases List.mem_cons.1 (h x (by simp)) with e | e
        · exact absurd e hxy
        · exact e
      rcases List.mem_cons.1 (h z hz) with e | e
      · have h1 := hb.1 x hxb
        rcases List.mem_cons.1 hz with e2 | e2
        · omega
        · have := ha.1 z e2; omega
      · exact e
theorem asc_pw {l : List Int} (h : ascF (-1) l = true) : l.Pairwise (· < ·) := ((ascF_iff l _).1 h).1

/-! ### More people -/
theorem right_gate {p n : Int} {l : List Gt} (hp : ¬ 0 ≤ p) (h : rightF (.mk p n l) = true) : 1 ≤ n ∧ rightL l = true := by
  simp only [rightF, if_neg hp, Bool.and_eq_true, decide_eq_true_eq] at h
  exact ⟨h.1.1.2, h.2⟩
mutual
def inG (q : Int) : Gt → Bool
  | .mk p _ l => decide (0 ≤ p ∧ p = q) || inL q l
def inL (q : Int) : List Gt → Bool
  | [] => false
  | x :: r => inG q x || inL q r
end
mutual
theorem holds_sub {W V : Int → Bool} : ∀ g : Gt, (∀ p, inG p g = true → W p = true → V p = true) → rightF g = true → holdsF W g = true → holdsF V g = true
  | .mk p n l, h, hr, hw => by
    by_cases hp : 0 ≤ p
    · rw [holdsF, if_pos hp] at hw ⊢; exact h p (by simp [inG, hp]) hw
    · obtain ⟨k2, k4⟩ := right_gate hp hr
      rw [holdsF, if_neg hp] at hw ⊢
      exact cnt_sub l n n (fun p hq => h p (by simp [inG, hq])) k4 (Int.le_refl _) k2 hw
theorem cnt_sub {W V : Int → Bool} : ∀ (l : List Gt) (n m : Int), (∀ p, inL p l = true → W p = true → V p = true) → rightL l = true → m ≤ n → 1 ≤ m → cntF W l n = true → cntF V l m = true
  | [], n, m, _, _, _, _, hw => by simp [cntF] at hw
  | x :: r, n, m, h, hr, hmn, hm, hw => by
    simp only [rightL, Bool.and_eq_true] at hr
    have hx := holds_sub x (fun p hp => h p (by simp [inL, hp])) hr.1
    have hr' := fun n m => cnt_sub r n m (fun p hp => h p (by simp [inL, hp])) hr.2
    rw [cntF] at hw ⊢
    by_cases h1 : holdsF W x = true
    · rw [if_pos (hx h1)]
      rw [if_pos h1] at hw
      split
      · rfl
      · rename_i h2
        rw [if_neg (by omega)] at hw
        exact hr' (n - 1) (m - 1) (by omega) (by omega) hw
    · rw [if_neg h1] at hw
      split
      · split
        · rfl
        · rename_i h2
          exact hr' n (m - 1) (by omega) (by omega) hw
      · exact hr' n m hmn hm hw
end
mutual
theorem holds_none : ∀ g : Gt, rightF g = true → holdsF (fun _ => false) g = false
  | .mk p n l, hr => by
    by_cases hp : 0 ≤ p
    · rw [holdsF, if_pos hp]
    · obtain ⟨k2, k4⟩ := right_gate hp hr
      rw [holdsF, if_neg hp]
      exact cnt_none l n k4
theorem cnt_none : ∀ (l : List Gt) (n : Int), rightL l = true → cntF (fun _ => false) l n = false
  | [], _, _ => rfl
  | x :: r, n, hr => by
    simp only [rightL, Bool.and_eq_true] at hr
    rw [cntF, holds_none x hr.1]
    exact cnt_none r n hr.2
end
theorem mem_addK (n x : Int) (ks : List Int) : x ∈ addK n ks ↔ x ∈ ks ∨ x = n := by
  unfold addK
  split
  · rename_i h
    exact ⟨.inl, fun e => e.elim id fun e => by subst e; exact h⟩
  · simp
mutual
theorem mem_keys (x : Int) : ∀ (g : Gt) (ks : List Int), x ∈ keysF ks g ↔ x ∈ ks ∨ inG x g = true
  | .mk p n l, ks => by
    rw [keysF, mem_keysL x l, inG]
    split
    · rename_i hp; rw [mem_addK, eq_comm (a := x)]; simp [hp, or_assoc]
    · rename_i hp; simp [hp]
theorem mem_keysL (x : Int) : ∀ (l : List Gt) (ks : List Int), x ∈ keysL ks l ↔ x ∈ ks ∨ inL x l = true
  | [], ks => by simp [keysL, inL]
  | y :: r, ks => by rw [keysL, mem_keysL x r, mem_keys x y, inL]; simp [or_assoc]
end
theorem addK_nodup {n : Int} {ks : List Int} (h : ks.Nodup) : (addK n ks).Nodup := by
  unfold addK
  split
  · exact h
  · rename_i hn
    rw [List.nodup_append]
    exact ⟨h, by simp, fun a ha b hb e => by simp at hb; subst hb; subst e; exact hn ha⟩
mutual
theorem keys_nodup : ∀ (g : Gt) (ks : List Int), ks.Nodup → (keysF ks g).Nodup
  | .mk p n l, ks, h => by
    rw [keysF]
    split
    · exact keys_nodupL l _ (addK_nodup h)
    · exact keys_nodupL l _ h
theorem keys_nodupL : ∀ (l : List Gt) (ks : List Int), ks.Nodup → (keysL ks l).Nodup
  | [], _, h => h
  | x :: r, ks, h => by rw [keysL]; exact keys_nodupL r _ (keys_nodup x ks h)
end
mutual
theorem in_right (x : Int) : ∀ g : Gt, rightF g = true → inG x g = true → 0 ≤ x ∧ x < 64
  | .mk p n l, hr, hi => by
    by_cases hp : 0 ≤ p
    · simp only [rightF, if_pos hp, Bool.and_eq_true, List.isEmpty_iff, decide_eq_true_eq] at hr
      obtain ⟨⟨h1, h2⟩, rfl⟩ := hr
      simp [inG, inL] at hi; omega
    · obtain ⟨k2, k4⟩ := right_gate hp hr
      simp only [inG, Bool.or_eq_true, decide_eq_true_eq] at hi
      exact in_rightL x l k4 (hi.resolve_left fun e => hp e.1)
theorem in_rightL (x : Int) : ∀ l : List Gt, rightL l = true → inL x l = true → 0 ≤ x ∧ x < 64
  | [], _, hi => by simp [inL] at hi
  | y :: r, hr, hi => by
    simp only [rightL, Bool.and_eq_true] at hr
    simp only [inL, Bool.or_eq_true] at hi
    exact hi.elim (in_right x y hr.1) (in_rightL x r hr.2)
end
theorem mem_ppl {g : Gt} (h : rightF g = true) (x : Int) : x ∈ pplF g ↔ inG x g = true := by
  rw [← peo_ppl h]
  unfold peoF
  rw [(sortI_perm _).mem_iff, mem_keys]; simp
theorem asc_ppl {g : Gt} (h : rightF g = true) : ascF (-1) (pplF g) = true := by
  rw [ascF_iff]
  constructor
  · rw [← peo_ppl h]
    have h1 := sortI_le (keysF [] g)
    have h2 : (sortI (keysF [] g)).Nodup := (sortI_perm _).nodup_iff.2 (keys_nodup g [] .nil)
    exact (h1.and h2).imp fun h => by omega
  · intro x hx
    have := in_right x g h ((mem_ppl h x).1 hx)
    exact ⟨by omega, this.2⟩
theorem permF_asc {g : Gt} {s : List Int} (h : checkF g = 0) (hs : ascF (-1) s = true) : holdsR g s = (permF g s, 0) ∧ permF g s = holdsF (fun p => decide (p ∈ s)) g := by
  simp [permF, holdsR, h, hs]
/-- Whoever may still may when more of the formula's people are there. -/
theorem perm_sub {g : Gt} {s t : List Int} (h : checkF g = 0) (hs : ascF (-1) s = true) (ht : ascF (-1) t = true) (hst : ∀ x ∈ pplF g, x ∈ s → x ∈ t) (hp : permF g s = true) : permF g t = true := by
  have hr := checkF_right h
  rw [(permF_asc h hs).2] at hp
  rw [(permF_asc h ht).2]
  exact holds_sub g (fun p hp h1 => by simp at h1 ⊢; exact hst p ((mem_ppl hr p).2 hp) h1) hr hp
theorem perm_eq {g : Gt} {s t : List Int} (h : checkF g = 0) (hs : ascF (-1) s = true) (ht : ascF (-1) t = true) (hst : ∀ x ∈ pplF g, x ∈ s ↔ x ∈ t) : permF g s = permF g t := by
  rw [Bool.eq_iff_iff]
  exact ⟨perm_sub h hs ht fun x hx => (hst x hx).1, perm_sub h ht hs fun x hx => (hst x hx).2⟩
theorem perm_none {g : Gt} (h : checkF g = 0) : permF g [] = false := by
  rw [(permF_asc h (by simp [ascF])).2]
  simpa using holds_none g (checkF_right h)

/-! ### All subsets, the least first -/
theorem mem_subs : ∀ (l s : List Int), s ∈ subsF l ↔ s.Sublist l
  | [], s => by simp [subsF]
  | x :: r, s => by
    rw [subsF, List.mem_append, List.mem_map, List.sublist_cons_iff, mem_subs r s]
    constructor
    · rintro (⟨t, ht, rfl⟩ | h)
      · exact .inr ⟨t, rfl, (mem_subs r t).1 ht⟩
      · exact .inl h
    · rintro (h | ⟨t, rfl, ht⟩)
      · exact .inr h
      · exact .inl ⟨t, (mem_subs r t).2 ht, rfl⟩
theorem mem_all (l s : List Int) : s ∈ allF l ↔ s.Sublist l := by
  unfold allF allUp
  rw [List.mem_flatMap]
  constructor
  · rintro ⟨k, hk, hs⟩
    rw [← subs_choose, List.mem_filter] at hs
    exact (mem_subs l s).1 hs.1
  · intro h
    refine ⟨s.length, by rw [List.mem_range]; have := h.length_le; omega, ?_⟩
    rw [← subs_choose, List.mem_filter]
    exact ⟨(mem_subs l s).2 h, by simp⟩
def befF : List Int → List Int → Bool
  | [], _ => false
  | _ :: _, [] => false
  | x :: a, y :: b => if x = y then befF a b else decide (x < y)
theorem bef_asymm : ∀ (a b : List Int), befF a b = true → befF b a = false
  | [], _, h => by simp [befF] at h
  | _ :: _, [], h => by simp [befF] at h
  | x :: a, y :: b, h => by
    rw [befF] at h ⊢
    split at h
    · rename_i e; rw [if_pos e.symm]; exact bef_asymm a b h
    · rename_i e; rw [if_neg (fun k => e k.symm)]; simp at h ⊢; omega
theorem bef_irr : ∀ a : List Int, befF a a = false
  | [] => rfl
  | x :: a => by rw [befF, if_pos rfl]; exact bef_irr a
theorem choose_in : ∀ (l : List Int) (k : Nat) (s : List Int), s ∈ chooseF l k → s.Sublist l := fun l k s h => by
  rw [← subs_choose, List.mem_filter] at h
  exact (mem_subs l s).1 h.1
theorem choose_pw : ∀ (l : List Int) (k : Nat), l.Pairwise (· < ·) → (chooseF l k).Pairwise fun a b => befF a b = true
  | l, 0, _ => by cases l <;> simp [chooseF]
  | [], k + 1, _ => by simp [chooseF]
  | x :: r, k + 1, h => by
    rw [List.pairwise_cons] at h
    rw [chooseF, List.pairwise_append]
    refine ⟨?_, choose_pw r (k + 1) h.2, ?_⟩
    · rw [List.pairwise_map]
      exact (choose_pw r k h.2).imp fun {a b} hab => by rw [befF, if_pos rfl]; exact hab
    · intro a ha b hb
      obtain ⟨t, _, rfl⟩ := List.mem_map.1 ha
      have h1 := choose_mem r (k + 1) b hb
      have h2 := (choose_in r (k + 1) b hb).subset
      cases b with
      | nil => simp at h1
      | cons y b =>
        have := h.1 y (h2 (by simp))
        rw [befF, if_neg (by omega)]; simpa using this
theorem up_pw (l : List Int) (hl : l.Pairwise (· < ·)) : ∀ m, (allUp l m).Pairwise fun a b => a.length ≤ b.length ∧ (a.length = b.length → befF a b = true)
  | 0 => by simp [allUp]
  | m + 1 => by
    have e : allUp l (m + 1) = allUp l m ++ chooseF l m := by simp [allUp, List.range_succ]
    rw [e, List.pairwise_append]
    refine ⟨up_pw l hl m, ?_, ?_⟩
    · refine (choose_pw l m hl).imp_of_mem fun {a b} ha hb hab => ?_
      rw [choose_mem l m a ha, choose_mem l m b hb]
      exact ⟨Nat.le_refl _, fun _ => hab⟩
    · intro a ha b hb
      simp only [allUp, List.mem_flatMap, List.mem_range] at ha
      obtain ⟨k, hk, ha⟩ := ha
      rw [choose_mem l k a ha, choose_mem l m b hb]
      exact ⟨by omega, fun e => by omega⟩
/-- What is found first is least. -/
theorem first_least {l : List Int} (hl : l.Pairwise (· < ·)) {p : List Int → Bool} {s t : List Int} (hf : (allF l).find? p = some s) (ht : t.Sublist l) (hp : p t = true) : s.length ≤ t.length ∧ (s.length = t.length → befF t s = false) := by
  obtain ⟨hps, xs, ys, he, hx⟩ := List.find?_eq_some_iff_append.1 hf
  have hm := (mem_all l t).2 ht
  have hpw : (allF l).Pairwise _ := up_pw l hl (l.length + 1)
  rw [he] at hm hpw
  rw [List.pairwise_append, List.pairwise_cons] at hpw
  rcases List.mem_append.1 hm with hm | hm
  · have := hx t hm; rw [hp] at this; simp at this
  · rcases List.mem_cons.1 hm with rfl | hm
    · exact ⟨Nat.le_refl _, fun _ => bef_irr _⟩
    · have := hpw.2.1.1 t hm
      exact ⟨this.1, fun e => bef_asymm _ _ (this.2 e)⟩
theorem first_some {l : List Int} {p : List Int → Bool} {s : List Int} (hf : (allF l).find? p = some s) : s.Sublist l ∧ p s = true :=
  ⟨(mem_all l s).1 (List.mem_of_find?_eq_some hf), List.find?_some hf⟩
theorem first_none {l : List Int} {p : List Int → Bool} (hf : (allF l).find? p = none) {s : List Int} (hs : s.Sublist l) : p s = false := by
  have := List.find?_eq_none.1 hf s ((mem_all l s).2 hs)
  simpa using this
end Go.Proofs.Ytelehpccfaedjaa

/- What the laws on the living say, of the reference's answers. Plain. -/
set_option linter.unusedSimpArgs false
set_option linter.unusedVariables false
namespace Go.Proofs.Ytelehpccfaedjaa
open Go Go.Proofs Go.Abs

theorem mem_both (x : Int) (a b : List Int) : x ∈ bothF a b ↔ x ∈ a ∧ x ∈ b := by simp [bothF]
theorem mem_wt (x : Int) (a b : List Int) : x ∈ wtF a b ↔ x ∈ a ∧ x ∉ b := by simp [wtF]
structure ErrOK (g : Gt) (al : List Int) : Prop where
  c : checkF g = 0
  a : ascF (-1) al = true
  p : ascF (-1) (pplF g) = true
  n : (pplF g).length ≤ 12
theorem err_ok {g : Gt} {al : List Int} (h : err51F g al = 0) : ErrOK g al := by
  obtain ⟨h1, h2⟩ := err51_facts h
  obtain ⟨h3, _, h5⟩ := errF_facts h1
  exact ⟨h3, h2, asc_ppl (checkF_right h3), h5⟩
theorem holdsR_asc {g : Gt} {al s : List Int} (h : ErrOK g al) (hs : ascF (-1) s = true) : holdsR g s = (permF g s, 0) := (permF_asc h.c hs).1
theorem asc_both {g : Gt} {al : List Int} (h : ErrOK g al) : ascF (-1) (bothF (pplF g) al) = true := ascF_filter _ h.p
theorem asc_wt {l : List Int} (o : List Int) (h : ascF (-1) l = true) : ascF (-1) (wtF l o) = true := ascF_filter _ h
theorem perm_both {g : Gt} {al : List Int} (h : ErrOK g al) : permF g (bothF (pplF g) al) = permF g al :=
  perm_eq h.c (asc_both h) h.a fun x hx => by rw [mem_both]; exact ⟨fun e => e.2, fun e => ⟨hx, e⟩⟩
theorem ord_err {g : Gt} {al : List Int} (h : err51F g al ≠ 0) : livR g al = ([], false, err51F g al) ∧ deaR g al = ([], false, err51F g al) ∧ marR g al = ([], false, err51F g al) := by
  simp [livR, deaR, marR, h]
theorem liv_true {g : Gt} {al : List Int} (he : err51F g al = 0) (hp : permF g al = true) :
    ∃ s, livR g al = (s, true, 0) ∧ (allF (bothF (pplF g) al)).find? (permF g) = some s ∧ s.Sublist (bothF (pplF g) al) ∧ permF g s = true := by
  have h := err_ok he
  cases hf : (allF (bothF (pplF g) al)).find? (permF g) with
  | none =>
    have := first_none hf (.refl _)
    rw [perm_both h, hp] at this; cases this
  | some s => exact ⟨s, by simp [livR, he, firstF, hf], rfl, first_some hf⟩
theorem liv_false {g : Gt} {al : List Int} (he : err51F g al = 0) (hp : permF g al = false) : livR g al = ([], false, 0) := by
  have h := err_ok he
  cases hf : (allF (bothF (pplF g) al)).find? (permF g) with
  | none => simp [livR, he, firstF, hf]
  | some s =>
    obtain ⟨h1, h2⟩ := first_some hf
    have := perm_sub h.c (ascF_sub h1 (asc_both h)) h.a (fun x _ hx => ((mem_both x _ _).1 (h1.subset hx)).2) h2
    rw [hp] at this; cases this
theorem ord_true {g : Gt} {al : List Int} (he : err51F g al = 0) (hp : permF g al = true) :
    ∃ s, livR g al = (s, true, 0) ∧ deaR g al = ([], false, 0) ∧ s.length ≤ 12 ∧ holdsR g s = (true, 0) ∧ (∀ x ∈ s, x ∈ al) ∧ ∀ x ∈ s, x ∈ pplF g := by
  have h := err_ok he
  obtain ⟨s, h1, _, h2, h3⟩ := liv_true he hp
  have hs : ∀ x ∈ s, x ∈ pplF g ∧ x ∈ al := fun x hx => (mem_both x _ _).1 (h2.subset hx)
  refine ⟨s, h1, by simp [deaR, he, hp], ?_, ?_, fun x hx => (hs x hx).2, fun x hx => (hs x hx).1⟩
  · have := livR_len g al; rwa [h1] at this
  · rw [holdsR_asc h (ascF_sub h2 (asc_both h)), h3]
theorem ord_false {g : Gt} {al : List Int} (he : err51F g al = 0) (hp : permF g al = false) :
    ∃ t, livR g al = ([], false, 0) ∧ deaR g al = (t, true, 0) ∧ t.length ≤ 12 ∧ holdsR g (wtF (pplF g) t) = (false, 0) ∧ bothF t al = [] ∧ ∀ x ∈ t, x ∈ pplF g := by
  have h := err_ok he
  have hl := deaR_len g al
  cases hf : (allF (wtF (pplF g) al)).find? (fun s => !permF g (wtF (pplF g) s)) with
  | none =>
    have := first_none hf (.refl _)
    have e : permF g (wtF (pplF g) (wtF (pplF g) al)) = permF g al := by rw [wt_wt, perm_both h]
    rw [e, hp] at this; cases this
  | some t =>
    obtain ⟨h1, h2⟩ := first_some hf
    have ht : ∀ x ∈ t, x ∈ pplF g ∧ x ∉ al := fun x hx => (mem_wt x _ _).1 (h1.subset hx)
    have e : deaR g al = (t, true, 0) := by simp [deaR, he, hp, firstF, hf]
    rw [e] at hl
    refine ⟨t, liv_false he hp, e, hl, ?_, ?_, fun x hx => (ht x hx).1⟩
    · rw [holdsR_asc h (asc_wt _ h.p)]
      simpa using h2
    · rw [List.eq_nil_iff_forall_not_mem]
      intro x hx
      obtain ⟨k1, k2⟩ := (mem_both x _ _).1 hx
      exact (ht x k1).2 k2

/-! ### Margin -/
theorem mar_false {g : Gt} {al : List Int} (he : err51F g al = 0) (hp : permF g al = false) : marR g al = ([], false, 0) := by simp [marR, he, hp]
theorem mar_find {g : Gt} {al : List Int} (he : err51F g al = 0) (hp : permF g al = true) :
    ∃ s, marR g al = (s, true, 0) ∧ (allF (bothF (pplF g) al)).find? (fun s => !permF g (wtF (bothF (pplF g) al) s)) = some s := by
  have h := err_ok he
  cases hf : (allF (bothF (pplF g) al)).find? (fun s => !permF g (wtF (bothF (pplF g) al) s)) with
  | none =>
    have := first_none hf (.refl _)
    have e : wtF (bothF (pplF g) al) (bothF (pplF g) al) = [] := by
      rw [List.eq_nil_iff_forall_not_mem]; intro x hx; rw [mem_wt] at hx; exact hx.2 hx.1
    rw [e, perm_none h.c] at this; cases this
  | some s => exact ⟨s, by simp [marR, he, hp, firstF, hf], rfl⟩
/-- Taking away from the living people of the formula, or from all that are alive, is the same to the formula. -/
theorem perm_less {g : Gt} {al : List Int} (h : ErrOK g al) (s t : List Int) (hst : ∀ x ∈ pplF g, x ∈ al → (x ∈ s ↔ x ∈ t)) : permF g (wtF (bothF (pplF g) al) s) = permF g (wtF al t) :=
  perm_eq h.c (ascF_filter _ (asc_both h)) (ascF_filter _ h.a) fun x hx => by
    rw [mem_wt, mem_wt, mem_both]
    constructor
    · rintro ⟨⟨_, k1⟩, k2⟩; exact ⟨k1, fun e => k2 ((hst x hx k1).2 e)⟩
    · rintro ⟨k1, k2⟩; exact ⟨⟨hx, k1⟩, fun e => k2 ((hst x hx k1).1 e)⟩
theorem mar_true {g : Gt} {al : List Int} (he : err51F g al = 0) (hp : permF g al = true) :
    ∃ s, marR g al = (s, true, 0) ∧ s.length ≤ 12 ∧ holdsR g (wtF al s) = (false, 0) ∧ (∀ x ∈ s, x ∈ al) ∧
      ∀ own : List Int, own.Sublist al → holdsR g (wtF al own) = (permF g (wtF al own), 0) ∧ (permF g (wtF al own) = false → s.length ≤ own.length ∧ (s.length = own.length → befF own s = false)) := by
  have h := err_ok he
  obtain ⟨s, h1, hf⟩ := mar_find he hp
  have hl := marR_len g al
  rw [h1] at hl
  obtain ⟨h2, h3⟩ := first_some hf
  have hs : ∀ x ∈ s, x ∈ pplF g ∧ x ∈ al := fun x hx => (mem_both x _ _).1 (h2.subset hx)
  refine ⟨s, h1, hl, ?_, fun x hx => (hs x hx).2, fun own ho => ⟨holdsR_asc h (asc_wt _ h.a), fun hno => ?_⟩⟩
  · rw [holdsR_asc h (asc_wt _ h.a), ← perm_less h s s fun x _ _ => Iff.rfl]
    simpa using h3
  · have hsub : ((bothF (pplF g) al).filter fun x => decide (x ∈ own)).Sublist own := by
      refine sub_of_asc _ _ (asc_pw (ascF_filter _ (asc_both h))) ((asc_pw h.a).sublist ho) fun x hx => ?_
      simp at hx; exact hx.2
    have hno' : permF g (wtF (bothF (pplF g) al) ((bothF (pplF g) al).filter fun x => decide (x ∈ own))) = false := by
      rw [perm_less h _ own fun x hx hxa => ?_, hno]
      rw [List.mem_filter, mem_both]
      simp [hx, hxa]
    obtain ⟨k1, k2⟩ := first_least (asc_pw (asc_both h)) hf (List.filter_sublist (p := fun x => decide (x ∈ own))) (by simp [hno'])
    have hle := hsub.length_le
    refine ⟨by omega, fun e => ?_⟩
    have heq := hsub.eq_of_length (by omega)
    rw [heq] at k2
    exact k2 e

/-! ### One more -/
def moreF (al : List Int) (o : Int) : List Int := ((List.range 64).map Int.ofNat).filter fun p => decide (p = o) || decide (p ∈ al)
theorem mem_more {g : Gt} {al : List Int} (h : ErrOK g al) {o : Int} (ho : 0 ≤ o ∧ o < 64) (x : Int) : x ∈ moreF al o ↔ x = o ∨ x ∈ al := by
  unfold moreF
  rw [List.mem_filter, List.mem_map]
  simp only [List.mem_range, Bool.or_eq_true, decide_eq_true_eq]
  refine ⟨fun e => e.2, fun e => ⟨?_, e⟩⟩
  have hx : 0 ≤ x ∧ x < 64 := by
    rcases e with rfl | e
    · exact ho
    · have := ((ascF_iff al _).1 h.a).2 x e; omega
  exact ⟨x.toNat, by omega, by simp; omega⟩
theorem asc_more (al : List Int) (o : Int) : ascF (-1) (moreF al o) = true := ascF_filter _ (by decide +kernel)
theorem err_more {g : Gt} {al : List Int} (h : err51F g al = 0) (o : Int) : err51F g (moreF al o) = 0 := by
  simp [err51F, (err51_facts h).1, asc_more]
theorem both_sub {g : Gt} {al : List Int} (h : ErrOK g al) {o : Int} (ho : 0 ≤ o ∧ o < 64) : (bothF (pplF g) al).Sublist (bothF (pplF g) (moreF al o)) :=
  sub_of_asc _ _ (asc_pw (asc_both h)) (asc_pw (ascF_filter _ h.p)) fun x hx => by
    rw [mem_both] at hx ⊢
    exact ⟨hx.1, (mem_more h ho x).2 (.inr hx.2)⟩
theorem more_true {g : Gt} {al : List Int} (he : err51F g al = 0) {o : Int} (ho : 0 ≤ o ∧ o < 64) (hp : permF g al = true) :
    permF g (moreF al o) = true ∧ (marR g al).1.length ≤ (marR g (moreF al o)).1.length ∧ (livR g (moreF al o)).1.length ≤ (livR g al).1.length := by
  have h := err_ok he
  have he' := err_more he o
  have h' := err_ok he'
  have hp' : permF g (moreF al o) = true := perm_sub h.c h.a h'.a (fun x _ hx => (mem_more h ho x).2 (.inr hx)) hp
  refine ⟨hp', ?_, ?_⟩
  · obtain ⟨s, h1, hf⟩ := mar_find he hp
    obtain ⟨s', h1', hf'⟩ := mar_find he' hp'
    rw [h1, h1']
    obtain ⟨k1, k2⟩ := first_some hf'
    have hno : permF g (wtF (bothF (pplF g) al) ((bothF (pplF g) al).filter fun x => decide (x ∈ s'))) = false := by
      cases hc : permF g (wtF (bothF (pplF g) al) ((bothF (pplF g) al).filter fun x => decide (x ∈ s'))) with
      | false => rfl
      | true =>
        have := perm_sub (t := wtF (bothF (pplF g) (moreF al o)) s') h.c (asc_wt _ (asc_both h)) (asc_wt _ (asc_both h')) (fun x hx hxs => ?_) hc
        · rw [this] at k2; cases k2
        · rw [mem_wt, List.mem_filter] at hxs
          rw [mem_wt]
          exact ⟨(both_sub h ho).subset hxs.1, fun e => hxs.2 ⟨hxs.1, by simpa using e⟩⟩
    have hle := (first_least (asc_pw (asc_both h)) hf (List.filter_sublist (p := fun x => decide (x ∈ s'))) (by simp [hno])).1
    have hsub : ((bothF (pplF g) al).filter fun x => decide (x ∈ s')).Sublist s' := by
      refine sub_of_asc _ _ (asc_pw (ascF_filter _ (asc_both h))) ((asc_pw (asc_both h')).sublist k1) fun x hx => ?_
      simp at hx; exact hx.2
    have := hsub.length_le
    simp only
    omega
  · obtain ⟨s, h1, _, h2, h3⟩ := liv_true he hp
    obtain ⟨s', h1', hf', _, _⟩ := liv_true he' hp'
    rw [h1, h1']
    exact (first_least (asc_pw (asc_both h')) hf' (h2.trans (both_sub h ho)) h3).1
theorem more_out {g : Gt} {al : List Int} (he : err51F g al = 0) {o : Int} (ho : 0 ≤ o ∧ o < 64) (hn : o ∉ pplF g) : livR g (moreF al o) = livR g al ∧ marR g (moreF al o) = marR g al := by
  have h := err_ok he
  have he' := err_more he o
  have h' := err_ok he'
  have hb : bothF (pplF g) (moreF al o) = bothF (pplF g) al := by
    unfold bothF
    apply List.filter_congr
    intro x hx
    rw [decide_eq_decide, mem_more h ho]
    exact ⟨fun e => e.elim (fun e => absurd (e ▸ hx) hn) id, .inr⟩
  have hpm : permF g (moreF al o) = permF g al := by rw [← perm_both h', ← perm_both h, hb]
  simp only [livR, marR, he, he', hb, hpm, and_self]
end Go.Proofs.Ytelehpccfaedjaa

/- The laws LivingOrDead and LivingMargin: the code. No conditions. -/
set_option linter.unusedSimpArgs false
set_option linter.unusedVariables false
namespace Go.Proofs.Ytelehpccfaedjaa
open Go Go.Proofs Go.Abs

@[go_sem] theorem beq_ft : (false == true) = false := rfl
@[go_sem] theorem beq_tf : (true == false) = false := rfl
def beforeF (a b : List Int) : Bool := if a.length = b.length then befF a b else decide (a.length < b.length)
end Go.Proofs.Ytelehpccfaedjaa

/- The law LivingMargin: the code. No conditions. -/
set_option linter.unusedSimpArgs false
set_option linter.unusedVariables false
namespace Go.Proofs.Ytelehpccfaedjaa
open Go Go.Proofs Go.Abs

end Go.Proofs.Ytelehpccfaedjaa

/- The law LivingMore: the code. No conditions. -/
set_option linter.unusedSimpArgs false
set_option linter.unusedVariables false
namespace Go.Proofs.Ytelehpccfaedjaa
open Go Go.Proofs Go.Abs

theorem range_mid {n x : Nat} {don r : List Nat} (h : List.range n = don ++ x :: r) : x = don.length := by
  have := congrArg (fun l => l[don.length]?) h
  simp only [List.getElem?_append_right (Nat.le_refl _), Nat.sub_self, List.getElem?_cons_zero] at this
  have h2 := (List.getElem?_eq_some_iff.1 this)
  obtain ⟨h3, h4⟩ := h2
  simp at h4
  exact h4.symm
theorem both_one (x : Int) (al : List Int) : bothF [x] al = if x ∈ al then [x] else [] := by
  unfold bothF
  split <;> simp [*]
theorem more_facts {g : Gt} {al : List Int} (he : err51F g al = 0) {o : Int} (ho : 0 ≤ o ∧ o < 64) :
    ∃ who now lost less ok still, livR g al = (who, ok, 0) ∧ livR g (moreF al o) = (now, still, 0) ∧ marR g al = (lost, ok, 0) ∧ marR g (moreF al o) = (less, still, 0) ∧
      (ok = true → still = true ∧ lost.length ≤ less.length ∧ now.length ≤ who.length) ∧ (o ∉ pplF g → who = now ∧ lost = less ∧ ok = still) ∧ who.length ≤ 12 ∧ now.length ≤ 12 ∧ lost.length ≤ 12 ∧ less.length ≤ 12 := by
  have he' := err_more he o
  have key : ∀ al, err51F g al = 0 → ∃ a b, livR g al = (a, permF g al, 0) ∧ marR g al = (b, permF g al, 0) := fun al he => by
    cases hp : permF g al with
    | false => exact ⟨_, _, liv_false he hp, mar_false he hp⟩
    | true =>
      obtain ⟨s, h1, _⟩ := liv_true he hp
      obtain ⟨u, h2, _⟩ := mar_find he hp
      exact ⟨s, u, h1, h2⟩
  obtain ⟨a, b, h1, h2⟩ := key al he
  obtain ⟨a', b', h1', h2'⟩ := key _ he'
  refine ⟨a, a', b, b', permF g al, permF g (moreF al o), h1, h1', h2, h2', fun hp => ?_, fun hn => ?_, ?_, ?_, ?_, ?_⟩
  · have := more_true he ho hp
    rw [h1, h1', h2, h2'] at this
    exact this
  · obtain ⟨k1, k2⟩ := more_out he ho hn
    rw [h1, h1'] at k1
    rw [h2, h2'] at k2
    injection k1 with k1 k3
    injection k2 with k2 _
    injection k3 with k3 _
    exact ⟨k1.symm, k2.symm, k3.symm⟩
  · have := livR_len g al; rwa [h1] at this
  · have := livR_len g (moreF al o); rwa [h1'] at this
  · have := marR_len g al; rwa [h2] at this
  · have := marR_len g (moreF al o); rwa [h2'] at this
end Go.Proofs.Ytelehpccfaedjaa
