/- The first subset that passes. No conditions. -/
import Derived.Test.YtopiamdfnaejeaaLivE
set_option linter.unusedSimpArgs false
set_option linter.unusedVariables false
namespace Go.Proofs.Ytopiamdfnaejeaa
open Go Go.Proofs Go.Abs

theorem and_one (q : Nat) (hq : q < 4096) : bitsOp .and .i64 (q : Int) 1 = (q % 2 : Nat) := by
  have h1 : (BitVec.ofInt 64 (q : Int) &&& BitVec.ofInt 64 1).toNat = q % 2 := by
    rw [BitVec.toNat_and, show (BitVec.ofInt 64 1).toNat = 1 from rfl, BitVec.ofInt_natCast, BitVec.toNat_ofNat, Nat.and_one_is_mod]
    omega
  show IntKind.i64.wrap ((BitVec.ofInt 64 (q : Int) &&& BitVec.ofInt 64 1).toNat : Int) = _
  rw [h1, IntWalk.i64_in _ ⟨by omega, by omega⟩]
theorem fdiv_pow (m k : Nat) : ((m : Int).fdiv (2 ^ k)) = ((m / 2 ^ k : Nat) : Int) := by
  rw [Int.fdiv_eq_ediv_of_nonneg _ (Int.le_of_lt (Int.pow_pos (by decide)))]
  simp
def fromF (l : List Int) : Nat → Nat → List (List Int)
  | _, 0 => []
  | i, c + 1 => chooseF l i ++ fromF l (i + 1) c
theorem from_all (l : List Int) : ∀ (c i : Nat), (List.range' i c).flatMap (chooseF l) = fromF l i c
  | 0, i => rfl
  | c + 1, i => by rw [List.range'_succ, List.flatMap_cons, from_all l c (i + 1), fromF]
theorem all_from (l : List Int) : allF l = fromF l 0 (l.length + 1) := by rw [← from_all, ← List.range_eq_range']; rfl
/-- The masks below a number, of one size, from the highest. -/
def masksF (l : List Int) (i m : Nat) : List (List Int) := ((List.range m).reverse.map (pickF l)).filter fun s => decide (s.length = i)
theorem masks_all (l : List Int) (i : Nat) : masksF l i (2 ^ l.length) = chooseF l i := choose_masks l i
theorem masks_succ (l : List Int) (i m : Nat) : masksF l i (m + 1) = (if (pickF l m).length = i then [pickF l m] else []) ++ masksF l i m := by
  rw [masksF, List.range_succ, List.reverse_append, List.map_append, List.filter_append]
  congr 1
  simp only [List.reverse_cons, List.reverse_nil, List.nil_append, List.map_cons, List.map_nil, List.filter_cons, List.filter_nil, decide_eq_true_eq]
def firstB (r : Option (List Int)) : AV := match r with
  | some s => .tuple [.sl (encI s) .free, .bool true]
  | none => .tuple [.sl [] .free, .bool false]
theorem app4 {α : Type} (h j : List α) (a b c d : α) : h ++ a :: b :: c :: d :: j = (h ++ [a, b, c]) ++ d :: j := by simp
structure SbS where
  m : Nat
  j : AH
set_option maxRecDepth 100000 in
theorem first_calls (Γ : Nat → Option (List AV)) (l : List Int) (p : List Int → Bool) (fn : FuncId) (fs cs : List AV) (h : AH) (hl : l.length ≤ 12)
    (H : ∀ (j : AH) (s : List Int), s.length ≤ 12 → ACalls Try.prog Γ fn (fs ++ .sl (encI s) .free :: cs) (h ++ j) fun v h' => h' = h ++ j ∧ v = .bool (p s)) :
    ACalls Try.prog Γ 48 [.func 80 [] [.eptr [.sl (encI l) .free]], .func fn fs cs] h fun v h' => h' = h ∧ v = firstB ((allF l).find? p) := by
  refine ACalls.dropL ?_
  refine acalls_code (rs := [.cell 4 25, .cell 5 4]) Try.func48 rfl rfl rfl rfl Ty.mixed (by kernel_rfl) ?_
  simp (disch := omega) only [go_sem, bne_self_eq_false, beq_self_eq_true, true_and, and_true, decide_true, decide_false, wrap_i64, ↓reduceIte, Nat.reduceAdd, Nat.reduceSub, Nat.reduceMul, Nat.reduceEqDiff, Nat.reduceLeDiff, Int.reduceAdd, Int.reduceSub, Int.reduceNeg, Int.reduceLT, Int.reduceLE, Int.reduceEq, Int.reduceToNat, Nat.reduceMod]
  refine AWP.keep [7, 5, 4, 3] ?_
  simp (disch := omega) only [go_sem, bne_self_eq_false, beq_self_eq_true, true_and, and_true, decide_true, decide_false, wrap_i64, ↓reduceIte, Nat.reduceAdd, Nat.reduceSub, Nat.reduceMul, Nat.reduceEqDiff, Nat.reduceLeDiff, Int.reduceAdd, Int.reduceSub, Int.reduceNeg, Int.reduceLT, Int.reduceLE, Int.reduceEq, Int.reduceToNat, Nat.reduceMod]
  refine awp_rangeFuncL rfl (fun li hli => ?_)
  simp (disch := omega) only [go_sem, bne_self_eq_false, beq_self_eq_true, true_and, and_true, decide_true, decide_false, wrap_i64, ↓reduceIte, Nat.reduceAdd, Nat.reduceSub, Nat.reduceMul, Nat.reduceEqDiff, Nat.reduceLeDiff, Int.reduceAdd, Int.reduceSub, Int.reduceNeg, Int.reduceLT, Int.reduceLE, Int.reduceEq, Int.reduceToNat, Nat.reduceMod]
  obtain ⟨K, hK⟩ : ∃ K : AV → Bool → AObj → AH, K = fun s b lo => h ++ [.row [.func fn fs cs] 57, .row [s] 25, .row [.bool b] 4, lo] := ⟨_, rfl⟩
  have Klen : ∀ s b lo, (K s b lo).length = h.length + 4 := by subst hK; simp
  have Kf : ∀ s b lo j, (K s b lo ++ j)[h.length]? = some (.row [.func fn fs cs] 57) := by subst hK; simp
  have Ks : ∀ s b lo j, (K s b lo ++ j)[h.length + 1]? = some (.row [s] 25) := by subst hK; simp
  have Kb : ∀ s b lo j, (K s b lo ++ j)[h.length + 2]? = some (.row [.bool b] 4) := by subst hK; simp
  have Kl : ∀ s b lo j, (K s b lo ++ j)[h.length + 3]? = some lo := by subst hK; simp
  have Ss : ∀ s b lo j s', (K s b lo ++ j).set (h.length + 1) (.row [s'] 25) = K s' b lo ++ j := by subst hK; simp
  have Sb : ∀ s b lo j b', (K s b lo ++ j).set (h.length + 2) (.row [.bool b'] 4) = K s b' lo ++ j := by subst hK; simp
  have Sl : ∀ s b lo j lo', (K s b lo ++ j).set (h.length + 3) lo' = K s b lo' ++ j := by subst hK; simp
  have LK1 : ∀ s : List Int, LoopKept (h ++ [.row [.func fn fs cs] 57, .row [.sl [] .full] 25, .row [.bool false] 4]) (h ++ [.row [.func fn fs cs] 57, .row [.sl (encI s) .free] 25, .row [.bool true] 4]) := fun s => by
    have q1 := LoopKept.set (h := h ++ [.row [.func fn fs cs] 57, .row [.sl [] .full] 25, .row [.bool false] 4]) (i := h.length + 1) (ob := .row [.sl (encI s) .free] 25) (RBs.cons (of_eq_true (rb_I _ s)) (RBs.nil _)) (by simp)
    have q2 := LoopKept.set (h := h ++ [.row [.func fn fs cs] 57, .row [.sl (encI s) .free] 25, .row [.bool false] 4]) (i := h.length + 2) (ob := .row [.bool true] 4) (RBs.cons (.bool _) (RBs.nil _)) (by simp)
    simp only [hset_add, List.set_cons_succ, List.set_cons_zero] at q1 q2
    exact q1.trans q2
  have HK : ∀ v b lo j (s : List Int), s.length ≤ 12 → ACalls Try.prog Γ fn (fs ++ .sl (encI s) .free :: cs) (K v b lo ++ j) fun v' h' => h' = K v b lo ++ j ∧ v' = .bool (p s) := fun v b lo j s hs => by
    subst hK
    have := H ([.row [.func fn fs cs] 57, .row [v] 25, .row [.bool b] 4, lo] ++ j) s hs
    rwa [← List.append_assoc] at this
  refine ACalls.heap (h1 := K (.sl [] .full) false (.loop .ready none li) ++ []) ?_ (by subst hK; simp)
  refine acalls_code (rs := []) Try.func80 rfl rfl rfl rfl Ty.mixed (by kernel_rfl) ?_
  simp (disch := omega) only [go_sem, bne_self_eq_false, beq_self_eq_true, true_and, and_true, decide_true, decide_false, wrap_i64, ↓reduceIte, Nat.reduceAdd, Nat.reduceSub, Nat.reduceMul, Nat.reduceEqDiff, Nat.reduceLeDiff, Int.reduceAdd, Int.reduceSub, Int.reduceNeg, Int.reduceLT, Int.reduceLE, Int.reduceEq, Int.reduceToNat, Nat.reduceMod, encI_len]
  refine awp_scope ?_
  refine AWP.keep [0, 1] (aCode_ok Ty.mixed _ _ _ _ (by kernel_rfl) ?_)
  simp (disch := omega) only [go_sem, bne_self_eq_false, beq_self_eq_true, true_and, and_true, decide_true, decide_false, wrap_i64, ↓reduceIte, Nat.reduceAdd, Nat.reduceSub, Nat.reduceMul, Nat.reduceEqDiff, Nat.reduceLeDiff, Int.reduceAdd, Int.reduceSub, Int.reduceNeg, Int.reduceLT, Int.reduceLE, Int.reduceEq, Int.reduceToNat, Nat.reduceMod, encI_len]
  have LK0 : LoopKept (h ++ [.row [.func fn fs cs] 57, .row [.sl [] .full] 25, .row [.bool false] 4]) (h ++ [.row [.func fn fs cs] 57, .row [.sl [] .full] 25, .row [.bool false] 4]) := LoopKept.refl _
  refine awp_loopS (α := SbS) [0, 1, 3, 12, 13] (fun s => [(0, .yield (h.length + 3)), (1, .eptr [.sl (encI l) .free]), (3, .int .i64 l.length), (12, .int .i64 (l.length + 1)), (13, .int .i64 s.m)])
    (fun s => K (.sl [] .full) false (.loop .ready none li) ++ s.j) (fun s => s.m ≤ l.length + 1 ∧ (allF l).find? p = (fromF l s.m (l.length + 1 - s.m)).find? p) (fun s => l.length + 1 - s.m) ⟨0, []⟩ ?_ (by simp) ⟨by simp, by rw [all_from]; rfl⟩ Ty.mixed (by kernel_rfl) ?_
  · simp (disch := omega) only [go_sem, bne_self_eq_false, beq_self_eq_true, true_and, and_true, decide_true, decide_false, wrap_i64, ↓reduceIte, Nat.reduceAdd, Nat.reduceSub, Nat.reduceMul, Nat.reduceEqDiff, Nat.reduceLeDiff, Int.reduceAdd, Int.reduceSub, Int.reduceNeg, Int.reduceLT, Int.reduceLE, Int.reduceEq, Int.reduceToNat, Nat.reduceMod]
  rintro ⟨i, j⟩ ⟨hi, ht⟩
  simp only at hi ht ⊢
  simp (disch := omega) only [go_sem, bne_self_eq_false, beq_self_eq_true, true_and, and_true, decide_true, decide_false, wrap_i64, ↓reduceIte, Nat.reduceAdd, Nat.reduceSub, Nat.reduceMul, Nat.reduceEqDiff, Nat.reduceLeDiff, Int.reduceAdd, Int.reduceSub, Int.reduceNeg, Int.reduceLT, Int.reduceLE, Int.reduceEq, Int.reduceToNat, Nat.reduceMod]
  refine aIf.intro (fun hi2 => ?_) (fun hi2 => ?_) <;> simp (disch := omega) only [go_sem, bne_self_eq_false, beq_self_eq_true, true_and, and_true, decide_true, decide_false, wrap_i64, ↓reduceIte, Nat.reduceAdd, Nat.reduceSub, Nat.reduceMul, Nat.reduceEqDiff, Nat.reduceLeDiff, Int.reduceAdd, Int.reduceSub, Int.reduceNeg, Int.reduceLT, Int.reduceLE, Int.reduceEq, Int.reduceToNat, Nat.reduceMod]
  rotate_left
  · have e1 : l.length + 1 - i = 0 := by omega
    rw [e1] at ht
    refine ⟨_, .ready, none, j, by subst hK; simp only [List.append_assoc, List.cons_append, List.nil_append], LK0, by simp, ?_⟩
    simp (disch := omega) only [go_sem, bne_self_eq_false, beq_self_eq_true, true_and, and_true, decide_true, decide_false, wrap_i64, ↓reduceIte, Nat.reduceAdd, Nat.reduceSub, Nat.reduceMul, Nat.reduceEqDiff, Nat.reduceLeDiff, Int.reduceAdd, Int.reduceSub, Int.reduceNeg, Int.reduceLT, Int.reduceLE, Int.reduceEq, Int.reduceToNat, Nat.reduceMod]
    refine AWP.keep [5, 4] (aCode_ok Ty.mixed _ _ _ _ (by kernel_rfl) ?_)
    simp (disch := omega) only [go_sem, bne_self_eq_false, beq_self_eq_true, true_and, and_true, decide_true, decide_false, wrap_i64, ↓reduceIte, Nat.reduceAdd, Nat.reduceSub, Nat.reduceMul, Nat.reduceEqDiff, Nat.reduceLeDiff, Int.reduceAdd, Int.reduceSub, Int.reduceNeg, Int.reduceLT, Int.reduceLE, Int.reduceEq, Int.reduceToNat, Nat.reduceMod]
    rw [ht]; rfl
  have e1 : l.length + 1 - i = (l.length - i) + 1 := by omega
  rw [e1, fromF, ← masks_all] at ht
  have hpw : 2 ^ l.length ≤ 2 ^ 12 := Nat.pow_le_pow_right (by decide) hl
  have hmask : IntKind.i64.wrap (IntKind.i64.wrap (1 * 2 ^ min l.length 64) - 1) = ((2 ^ l.length : Nat) : Int) - 1 := by
    have e : (1 * 2 ^ min l.length 64 : Int) = ((2 ^ l.length : Nat) : Int) := by rw [Nat.min_eq_left (by omega), Int.one_mul]; simp
    have : (2 ^ l.length : Nat) ≤ 4096 := hpw
    rw [e]
    have h1 : 1 ≤ 2 ^ l.length := Nat.one_le_two_pow
    generalize 2 ^ l.length = N at this h1
    rw [show IntKind.i64.wrap (N : Int) = N from IntWalk.i64_in _ ⟨by omega, by omega⟩, IntWalk.i64_in _ ⟨by omega, by omega⟩]
  rw [hmask]
  refine awp_loopS (α := SbS) [0, 1, 3, 4, 5, 12, 13] (fun s => [(0, .yield (h.length + 3)), (1, .eptr [.sl (encI l) .free]), (3, .int .i64 l.length), (4, .int .i64 i), (5, .int .i64 (s.m - 1)), (12, .int .i64 (l.length + 1)), (13, .int .i64 i)])
    (fun s => K (.sl [] .full) false (.loop .ready none li) ++ s.j) (fun s => s.m ≤ 2 ^ l.length ∧ (allF l).find? p = (masksF l i s.m ++ fromF l (i + 1) (l.length - i)).find? p) (fun s => s.m) ⟨2 ^ l.length, j⟩ ?_ (by simp) ⟨Nat.le_refl _, ht⟩ Ty.mixed (by kernel_rfl) ?_
  · simp (disch := omega) only [go_sem, bne_self_eq_false, beq_self_eq_true, true_and, and_true, decide_true, decide_false, wrap_i64, ↓reduceIte, Nat.reduceAdd, Nat.reduceSub, Nat.reduceMul, Nat.reduceEqDiff, Nat.reduceLeDiff, Int.reduceAdd, Int.reduceSub, Int.reduceNeg, Int.reduceLT, Int.reduceLE, Int.reduceEq, Int.reduceToNat, Nat.reduceMod]
  clear ht
  rintro ⟨m, j⟩ ⟨hm, ht⟩
  simp only at hm ht ⊢
  simp (disch := omega) only [go_sem, bne_self_eq_false, beq_self_eq_true, true_and, and_true, decide_true, decide_false, wrap_i64, ↓reduceIte, Nat.reduceAdd, Nat.reduceSub, Nat.reduceMul, Nat.reduceEqDiff, Nat.reduceLeDiff, Int.reduceAdd, Int.reduceSub, Int.reduceNeg, Int.reduceLT, Int.reduceLE, Int.reduceEq, Int.reduceToNat, Nat.reduceMod]
  cases m with
  | zero =>
    refine aIf.neg (by omega) ?_
    simp (disch := omega) only [go_sem, bne_self_eq_false, beq_self_eq_true, true_and, and_true, decide_true, decide_false, wrap_i64, ↓reduceIte, Nat.reduceAdd, Nat.reduceSub, Nat.reduceMul, Nat.reduceEqDiff, Nat.reduceLeDiff, Int.reduceAdd, Int.reduceSub, Int.reduceNeg, Int.reduceLT, Int.reduceLE, Int.reduceEq, Int.reduceToNat, Nat.reduceMod]
    refine AWP.keep [0, 1, 3, 12, 13] (aCode_ok Ty.mixed _ _ _ _ (by kernel_rfl) ?_)
    simp (disch := omega) only [go_sem, bne_self_eq_false, beq_self_eq_true, true_and, and_true, decide_true, decide_false, wrap_i64, ↓reduceIte, Nat.reduceAdd, Nat.reduceSub, Nat.reduceMul, Nat.reduceEqDiff, Nat.reduceLeDiff, Int.reduceAdd, Int.reduceSub, Int.reduceNeg, Int.reduceLT, Int.reduceLE, Int.reduceEq, Int.reduceToNat, Nat.reduceMod]
    refine roundS_next ⟨i + 1, j⟩ (by simp only; omega) ⟨by simp only; omega, ?_⟩ ?_ rfl
    · rw [ht]
      have : l.length + 1 - (i + 1) = l.length - i := by omega
      simp only [this]
      rfl
    · simp (disch := omega) only [go_sem, bne_self_eq_false, beq_self_eq_true, true_and, and_true, decide_true, decide_false, wrap_i64, ↓reduceIte, Nat.reduceAdd, Nat.reduceSub, Nat.reduceMul, Nat.reduceEqDiff, Nat.reduceLeDiff, Int.reduceAdd, Int.reduceSub, Int.reduceNeg, Int.reduceLT, Int.reduceLE, Int.reduceEq, Int.reduceToNat, Nat.reduceMod]
  | succ m =>
    rw [masks_succ] at ht
    have hm4 : m < 4096 := Nat.lt_of_lt_of_le hm hpw
    have em : ((m + 1 : Nat) : Int) - 1 = (m : Int) := by omega
    rw [em]
    refine aIf.pos (by omega) ?_
    simp (disch := omega) only [go_sem, bne_self_eq_false, beq_self_eq_true, true_and, and_true, decide_true, decide_false, wrap_i64, ↓reduceIte, Nat.reduceAdd, Nat.reduceSub, Nat.reduceMul, Nat.reduceEqDiff, Nat.reduceLeDiff, Int.reduceAdd, Int.reduceSub, Int.reduceNeg, Int.reduceLT, Int.reduceLE, Int.reduceEq, Int.reduceToNat, Nat.reduceMod]
    rw [IntWalk.u64_in _ ⟨by omega, by omega⟩]
    refine ACalls.det (ones_calls Γ m _ hm4) ?_
    have epop : popF m 12 = (pickF l m).length := by
      rw [pick_len, show 12 = l.length + (12 - l.length) from by omega, pop_more _ _ _ hm]
    rw [epop]
    simp (disch := omega) only [go_sem, bne_self_eq_false, beq_self_eq_true, true_and, and_true, decide_true, decide_false, wrap_i64, ↓reduceIte, Nat.reduceAdd, Nat.reduceSub, Nat.reduceMul, Nat.reduceEqDiff, Nat.reduceLeDiff, Int.reduceAdd, Int.reduceSub, Int.reduceNeg, Int.reduceLT, Int.reduceLE, Int.reduceEq, Int.reduceToNat, Nat.reduceMod]
    refine aIf.intro (fun hsz => ?_) (fun hsz => ?_) <;> simp (disch := omega) only [go_sem, bne_self_eq_false, beq_self_eq_true, true_and, and_true, decide_true, decide_false, wrap_i64, ↓reduceIte, Nat.reduceAdd, Nat.reduceSub, Nat.reduceMul, Nat.reduceEqDiff, Nat.reduceLeDiff, Int.reduceAdd, Int.reduceSub, Int.reduceNeg, Int.reduceLT, Int.reduceLE, Int.reduceEq, Int.reduceToNat, Nat.reduceMod]
    rotate_left
    · rw [if_neg (by omega), List.nil_append] at ht
      refine AWP.keep [0, 1, 3, 4, 5, 12, 13] (aCode_ok Ty.mixed _ _ _ _ (by kernel_rfl) ?_)
      simp (disch := omega) only [go_sem, bne_self_eq_false, beq_self_eq_true, true_and, and_true, decide_true, decide_false, wrap_i64, ↓reduceIte, Nat.reduceAdd, Nat.reduceSub, Nat.reduceMul, Nat.reduceEqDiff, Nat.reduceLeDiff, Int.reduceAdd, Int.reduceSub, Int.reduceNeg, Int.reduceLT, Int.reduceLE, Int.reduceEq, Int.reduceToNat, Nat.reduceMod]
      refine roundS_next ⟨m, j⟩ (by simp) ⟨by simp only; omega, ht⟩ ?_ rfl
      simp (disch := omega) only [go_sem, bne_self_eq_false, beq_self_eq_true, true_and, and_true, decide_true, decide_false, wrap_i64, ↓reduceIte, Nat.reduceAdd, Nat.reduceSub, Nat.reduceMul, Nat.reduceEqDiff, Nat.reduceLeDiff, Int.reduceAdd, Int.reduceSub, Int.reduceNeg, Int.reduceLT, Int.reduceLE, Int.reduceEq, Int.reduceToNat, Nat.reduceMod]
    rw [if_pos (by omega), List.append_assoc, List.cons_append, List.nil_append, List.find?_cons] at ht
    simp (disch := omega) only [go_sem, bne_self_eq_false, beq_self_eq_true, true_and, and_true, decide_true, decide_false, wrap_i64, ↓reduceIte, Nat.reduceAdd, Nat.reduceSub, Nat.reduceMul, Nat.reduceEqDiff, Nat.reduceLeDiff, Int.reduceAdd, Int.reduceSub, Int.reduceNeg, Int.reduceLT, Int.reduceLE, Int.reduceEq, Int.reduceToNat, Nat.reduceMod, encI_len]
    refine awp_loopL (β := FlS) l [0, 1, 3, 4, 5, 6, 12, 13, 28, 29, 30] (fun don s => [(0, .yield (h.length + 3)), (1, .eptr [.sl (encI l) .free]), (3, .int .i64 l.length), (4, .int .i64 i), (5, .int .i64 m), (6, .sl (encI s.l) s.own), (12, .int .i64 (l.length + 1)), (13, .int .i64 i), (28, .sl (encI l) .free), (29, .int .i64 l.length), (30, .int .i64 don.length)])
      (fun s => K (.sl [] .full) false (.loop .ready none li) ++ s.j) (fun don rest s => OwnAt (K (.sl [] .full) false (.loop .ready none li)) s.j s.l.length s.own ∧ s.l.length ≤ don.length ∧ pickF l m = s.l ++ pickF rest m) ⟨[], .full, j⟩ ?_ (by simp) ⟨trivial, by simp, rfl⟩ Ty.mixed (by kernel_rfl) ?_ ?_
    · simp (disch := omega) only [go_sem, bne_self_eq_false, beq_self_eq_true, true_and, and_true, decide_true, decide_false, wrap_i64, ↓reduceIte, Nat.reduceAdd, Nat.reduceSub, Nat.reduceMul, Nat.reduceEqDiff, Nat.reduceLeDiff, Int.reduceAdd, Int.reduceSub, Int.reduceNeg, Int.reduceLT, Int.reduceLE, Int.reduceEq, Int.reduceToNat, Nat.reduceMod, encI, List.map_nil]
    · rintro don x r ⟨s, own, j⟩ hlx ⟨ho, hsl, hpk⟩
      simp only at ho hsl hpk ⊢
      have hlen : l.length = don.length + 1 + r.length := by rw [hlx]; simp; omega
      have e1 : (encI l)[don.length]? = some (.int .i64 x) := by rw [hlx]; simp [encI]
      simp (disch := omega) only [go_sem, bne_self_eq_false, beq_self_eq_true, true_and, and_true, decide_true, decide_false, wrap_i64, ↓reduceIte, Nat.reduceAdd, Nat.reduceSub, Nat.reduceMul, Nat.reduceEqDiff, Nat.reduceLeDiff, Int.reduceAdd, Int.reduceSub, Int.reduceNeg, Int.reduceLT, Int.reduceLE, Int.reduceEq, Int.reduceToNat, Nat.reduceMod, encI_len]
      refine aIf.pos (by omega) ?_
      simp (disch := omega) only [go_sem, bne_self_eq_false, beq_self_eq_true, true_and, and_true, decide_true, decide_false, wrap_i64, ↓reduceIte, Nat.reduceAdd, Nat.reduceSub, Nat.reduceMul, Nat.reduceEqDiff, Nat.reduceLeDiff, Int.reduceAdd, Int.reduceSub, Int.reduceNeg, Int.reduceLT, Int.reduceLE, Int.reduceEq, Int.reduceToNat, Nat.reduceMod, encI_len, e1]
      refine ⟨by omega, ?_⟩
      have er : (((l.length : Int) - 1 - don.length).toNat) = r.length := by omega
      have hmr : m / 2 ^ r.length ≤ m := Nat.div_le_self _ _
      rw [er, Nat.min_eq_left (by omega), fdiv_pow, and_one _ (by omega)]
      rw [pickF] at hpk
      refine aIf.intro (fun hbit => ?_) (fun hbit => ?_) <;> simp (disch := omega) only [go_sem, bne_self_eq_false, beq_self_eq_true, true_and, and_true, decide_true, decide_false, wrap_i64, ↓reduceIte, Nat.reduceAdd, Nat.reduceSub, Nat.reduceMul, Nat.reduceEqDiff, Nat.reduceLeDiff, Int.reduceAdd, Int.reduceSub, Int.reduceNeg, Int.reduceLT, Int.reduceLE, Int.reduceEq, Int.reduceToNat, Nat.reduceMod]
      · rw [if_pos (by omega)] at hpk
        refine aAp_sl (by rw [encI_len]; exact ho) (rowsOK_I _) (rowsOK_I [x]) (by simp [encI_len]; omega) (by simp [encI_len]; omega) fun j' own' ho2 hg => ?_
        rw [encI_snoc]
        simp (disch := omega) only [go_sem, bne_self_eq_false, beq_self_eq_true, true_and, and_true, decide_true, decide_false, wrap_i64, ↓reduceIte, Nat.reduceAdd, Nat.reduceSub, Nat.reduceMul, Nat.reduceEqDiff, Nat.reduceLeDiff, Int.reduceAdd, Int.reduceSub, Int.reduceNeg, Int.reduceLT, Int.reduceLE, Int.reduceEq, Int.reduceToNat, Nat.reduceMod]
        refine roundL_next ⟨s ++ [x], own', j'⟩ ⟨?_, ?_, ?_⟩ ?_ rfl
        · simpa [encI_len] using ho2
        · simp; omega
        · rw [hpk]; simp
        · simp (disch := omega) only [go_sem, bne_self_eq_false, beq_self_eq_true, true_and, and_true, decide_true, decide_false, wrap_i64, ↓reduceIte, Nat.reduceAdd, Nat.reduceSub, Nat.reduceMul, Nat.reduceEqDiff, Nat.reduceLeDiff, Int.reduceAdd, Int.reduceSub, Int.reduceNeg, Int.reduceLT, Int.reduceLE, Int.reduceEq, Int.reduceToNat, Nat.reduceMod, List.length_append]
      · rw [if_neg (by omega)] at hpk
        refine roundL_next ⟨s, own, j⟩ ⟨ho, by simp; omega, hpk⟩ ?_ rfl
        simp (disch := omega) only [go_sem, bne_self_eq_false, beq_self_eq_true, true_and, and_true, decide_true, decide_false, wrap_i64, ↓reduceIte, Nat.reduceAdd, Nat.reduceSub, Nat.reduceMul, Nat.reduceEqDiff, Nat.reduceLeDiff, Int.reduceAdd, Int.reduceSub, Int.reduceNeg, Int.reduceLT, Int.reduceLE, Int.reduceEq, Int.reduceToNat, Nat.reduceMod, List.length_append]
    · rintro ⟨s, own, j⟩ ⟨ho, hsl, hpk⟩
      simp only at ho hsl hpk ⊢
      simp (disch := omega) only [go_sem, bne_self_eq_false, beq_self_eq_true, true_and, and_true, decide_true, decide_false, wrap_i64, ↓reduceIte, Nat.reduceAdd, Nat.reduceSub, Nat.reduceMul, Nat.reduceEqDiff, Nat.reduceLeDiff, Int.reduceAdd, Int.reduceSub, Int.reduceNeg, Int.reduceLT, Int.reduceLE, Int.reduceEq, Int.reduceToNat, Nat.reduceMod, encI_len]
      rw [pickF, List.append_nil] at hpk
      rw [← hpk] at *
      refine AWP.keep [0, 1, 3, 4, 5, 6, 12, 13] (AWP.lzs (aCode_ok Ty.mixed _ _ _ _ (by kernel_rfl) ?_))
      simp (disch := omega) only [go_sem, bne_self_eq_false, beq_self_eq_true, true_and, and_true, decide_true, decide_false, wrap_i64, ↓reduceIte, Nat.reduceAdd, Nat.reduceSub, Nat.reduceMul, Nat.reduceEqDiff, Nat.reduceLeDiff, Int.reduceAdd, Int.reduceSub, Int.reduceNeg, Int.reduceLT, Int.reduceLE, Int.reduceEq, Int.reduceToNat, Nat.reduceMod]
      refine ayield_L hli (Kl _ _ _ _) rfl rfl Ty.mixed (by kernel_rfl) rfl ?_
      simp (disch := omega) only [go_sem, bne_self_eq_false, beq_self_eq_true, true_and, and_true, decide_true, decide_false, wrap_i64, ↓reduceIte, Nat.reduceAdd, Nat.reduceSub, Nat.reduceMul, Nat.reduceEqDiff, Nat.reduceLeDiff, Int.reduceAdd, Int.reduceSub, Int.reduceNeg, Int.reduceLT, Int.reduceLE, Int.reduceEq, Int.reduceToNat, Nat.reduceMod, Kl, Kf, Sl]
      refine ACalls.det ((HK _ _ _ _ (pickF l m) (by omega)).args (by simp)) ?_
      simp (disch := omega) only [go_sem, bne_self_eq_false, beq_self_eq_true, true_and, and_true, decide_true, decide_false, wrap_i64, ↓reduceIte, Nat.reduceAdd, Nat.reduceSub, Nat.reduceMul, Nat.reduceEqDiff, Nat.reduceLeDiff, Int.reduceAdd, Int.reduceSub, Int.reduceNeg, Int.reduceLT, Int.reduceLE, Int.reduceEq, Int.reduceToNat, Nat.reduceMod]
      cases hp : p (pickF l m) with
      | true =>
        rw [hp] at ht
        simp (disch := omega) only [go_sem, bne_self_eq_false, beq_self_eq_true, true_and, and_true, decide_true, decide_false, wrap_i64, ↓reduceIte, Nat.reduceAdd, Nat.reduceSub, Nat.reduceMul, Nat.reduceEqDiff, Nat.reduceLeDiff, Int.reduceAdd, Int.reduceSub, Int.reduceNeg, Int.reduceLT, Int.reduceLE, Int.reduceEq, Int.reduceToNat, Nat.reduceMod, Kl, Sl, Ks, Ss, Kb, Sb]
        refine ⟨_, .done, some .ret, j, by subst hK; simp only [List.append_assoc, List.cons_append, List.nil_append], LK1 (pickF l m), by simp, ?_⟩
        refine afterLoop_some Ty.mixed (by kernel_rfl) ?_
        simp (disch := omega) only [go_sem, bne_self_eq_false, beq_self_eq_true, true_and, and_true, decide_true, decide_false, wrap_i64, ↓reduceIte, Nat.reduceAdd, Nat.reduceSub, Nat.reduceMul, Nat.reduceEqDiff, Nat.reduceLeDiff, Int.reduceAdd, Int.reduceSub, Int.reduceNeg, Int.reduceLT, Int.reduceLE, Int.reduceEq, Int.reduceToNat, Nat.reduceMod]
        rw [ht]; rfl
      | false =>
        rw [hp] at ht
        simp (disch := omega) only [go_sem, bne_self_eq_false, beq_self_eq_true, true_and, and_true, decide_true, decide_false, wrap_i64, ↓reduceIte, Nat.reduceAdd, Nat.reduceSub, Nat.reduceMul, Nat.reduceEqDiff, Nat.reduceLeDiff, Int.reduceAdd, Int.reduceSub, Int.reduceNeg, Int.reduceLT, Int.reduceLE, Int.reduceEq, Int.reduceToNat, Nat.reduceMod, Kl, Sl]
        refine AWP.keep [0, 1, 3, 4, 5, 12, 13] (aCode_ok Ty.mixed _ _ _ _ (by kernel_rfl) ?_)
        simp (disch := omega) only [go_sem, bne_self_eq_false, beq_self_eq_true, true_and, and_true, decide_true, decide_false, wrap_i64, ↓reduceIte, Nat.reduceAdd, Nat.reduceSub, Nat.reduceMul, Nat.reduceEqDiff, Nat.reduceLeDiff, Int.reduceAdd, Int.reduceSub, Int.reduceNeg, Int.reduceLT, Int.reduceLE, Int.reduceEq, Int.reduceToNat, Nat.reduceMod]
        refine roundS_next ⟨m, j⟩ (by simp) ⟨by simp only; omega, ht⟩ ?_ rfl
        simp (disch := omega) only [go_sem, bne_self_eq_false, beq_self_eq_true, true_and, and_true, decide_true, decide_false, wrap_i64, ↓reduceIte, Nat.reduceAdd, Nat.reduceSub, Nat.reduceMul, Nat.reduceEqDiff, Nat.reduceLeDiff, Int.reduceAdd, Int.reduceSub, Int.reduceNeg, Int.reduceLT, Int.reduceLE, Int.reduceEq, Int.reduceToNat, Nat.reduceMod]
end Go.Proofs.Ytopiamdfnaejeaa
