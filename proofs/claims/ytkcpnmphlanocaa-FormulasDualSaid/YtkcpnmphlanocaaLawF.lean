/- The statement on more people: who stands in a formula, by the statement's own closure. No conditions. -/
import Derived.Test.YtkcpnmphlanocaaLawD
set_option linter.unusedSimpArgs false
set_option linter.unusedVariables false
namespace Go.Proofs.Ytkcpnmphlanocaa
open Go Go.Proofs Go.Abs

theorem bits_and (a b : Nat) (ha : a < 18446744073709551616) : bitsOp .and .u64 (a : Int) (b : Int) = ((a &&& b : Nat) : Int) := by
  show IntKind.u64.wrap ((BitVec.ofInt 64 (a : Int) &&& BitVec.ofInt 64 (b : Int)).toNat : Int) = _
  rw [BitVec.toNat_and, BitVec.ofInt_natCast, BitVec.ofInt_natCast, BitVec.toNat_ofNat, BitVec.toNat_ofNat]
  have e : a % 2 ^ 64 &&& b % 2 ^ 64 = a &&& b := by
    rw [← Nat.and_mod_two_pow]
    refine Nat.mod_eq_of_lt (Nat.lt_of_le_of_lt Nat.and_le_left ?_)
    exact ha
  rw [e]
  have : a &&& b ≤ a := Nat.and_le_left
  exact IntWalk.u64_in _ ⟨by omega, by omega⟩
theorem bits_or (a b : Nat) (ha : a < 18446744073709551616) (hb : b < 18446744073709551616) : bitsOp .or .u64 (a : Int) (b : Int) = ((a ||| b : Nat) : Int) ∧ a ||| b < 18446744073709551616 := by
  have h : a ||| b < 2 ^ 64 := Nat.or_lt_two_pow ha hb
  refine ⟨?_, h⟩
  show IntKind.u64.wrap ((BitVec.ofInt 64 (a : Int) ||| BitVec.ofInt 64 (b : Int)).toNat : Int) = _
  rw [BitVec.toNat_or, BitVec.ofInt_natCast, BitVec.ofInt_natCast, BitVec.toNat_ofNat, BitVec.toNat_ofNat, Nat.mod_eq_of_lt ha, Nat.mod_eq_of_lt hb]
  generalize a ||| b = c at h
  exact IntWalk.u64_in _ ⟨by omega, by omega⟩

mutual
def thereF : Gt → Nat → Nat
  | .mk p _ l, s => thereL l (if 0 ≤ p then s ||| 2 ^ p.toNat else s)
def thereL : List Gt → Nat → Nat
  | [], s => s
  | x :: r, s => thereL r (thereF x s)
end
mutual
theorem thereF_bit : ∀ (g : Gt) (s q : Nat), (thereF g s).testBit q = (s.testBit q || inG (q : Int) g)
  | .mk p n l, s, q => by
    rw [thereF, thereL_bit l _ q, inG]
    by_cases hp : 0 ≤ p
    · obtain ⟨m, rfl⟩ := Int.eq_ofNat_of_zero_le hp
      simp [Nat.testBit_or, Nat.testBit_two_pow, Bool.or_assoc, Int.natCast_inj]
    · simp [hp]
theorem thereL_bit : ∀ (l : List Gt) (s q : Nat), (thereL l s).testBit q = (s.testBit q || inL (q : Int) l)
  | [], s, q => by simp [thereL, inL]
  | x :: r, s, q => by
    rw [thereL, thereL_bit r _ q, thereF_bit x s q, inL, Bool.or_assoc]
end
mutual
theorem thereF_lt : ∀ (g : Gt) (s : Nat), rightF g = true → s < 18446744073709551616 → thereF g s < 18446744073709551616
  | .mk p n l, s, hr, hs => by
    rw [thereF]
    by_cases hp : 0 ≤ p
    · rw [if_pos hp]
      simp [rightF, hp] at hr
      have : l = [] := by cases l <;> simp_all
      subst this
      rw [thereL]
      exact Nat.or_lt_two_pow hs (Nat.pow_lt_pow_right (by omega) (by omega : p.toNat < 64))
    · rw [if_neg hp]
      exact thereL_lt l s ((right_mk hp).1 hr).2.2.2 hs
theorem thereL_lt : ∀ (l : List Gt) (s : Nat), (∀ x ∈ l, rightF x = true) → s < 18446744073709551616 → thereL l s < 18446744073709551616
  | [], s, _, hs => hs
  | x :: r, s, hr, hs => by
    rw [thereL]
    exact thereL_lt r _ (fun y hy => hr y (List.mem_cons_of_mem _ hy)) (thereF_lt x s (hr x (List.mem_cons_self ..)) hs)
end

def markV (i j : Nat) : AV := .func 10 [] [.ptr (some (i, 0)), .ptr (some (j, 0))]
theorem kept_u64 (h : AH) (i : Nat) (n : Int) : LoopKept h (h.set i (.row [.int .u64 n] 25)) := LoopKept.set (show RBs h.length [.int .u64 n] from RBs.cons (.int _ _) (RBs.nil _)) (by simp)

theorem mark_calls_k (Γ : Nat → Option (List AV)) : ∀ (k : Nat) (g : Gt) (s : Nat) (h : AH) (i j : Nat), SizeOf.sizeOf g < k → Sh g → rightF g = true → s < 18446744073709551616 → h[i]? = some (.row [.int .u64 s] 25) → h[j]? = some (.row [markV i j] 33) →
    ACalls Try.prog Γ 10 [encG g, .ptr (some (i, 0)), .ptr (some (j, 0))] h fun v h' => h' = h.set i (.row [.int .u64 (thereF g s)] 25) ∧ v = .tuple []
  | 0, _, _, _, _, _, hk, _, _, _, _, _ => absurd hk (Nat.not_lt_zero _)
  | k + 1, .mk p n l, s, h, i, j, hsz, hs, hr, hsb, hi, hj => by
    have hi' := hget_of hi
    have hj' := hget_of hj
    have hij : i ≠ j := fun e => by subst e; rw [hi] at hj; simp [markV] at hj
    have hl1 := hs.len
    refine ACalls.dropAs (kept_u64 _ _ _) ?_
    obtain ⟨K, hK⟩ : ∃ K : Nat → AH, K = fun s : Nat => h.set i (.row [.int .u64 (s : Int)] 25) := ⟨_, rfl⟩
    have Klen : ∀ s : Nat, (K s).length = h.length := by subst hK; simp
    have Ki : ∀ (s : Nat) l, (K s ++ l)[i]? = some (.row [.int .u64 (s : Int)] 25) := by subst hK; exact fun s l => hget_setl l hi'
    have Kj : ∀ s l, (K s ++ l)[j]? = some (.row [markV i j] 33) := by subst hK; intro s l; rw [hget_in _ (by simpa using hj'), List.getElem?_set_ne hij]; exact hj
    have Ks : ∀ s l (s' : Nat), (K s ++ l).set i (.row [.int .u64 (s' : Int)] 25) = K s' ++ l := by subst hK; intro s l s'; rw [hset_left _ _ (by simpa using hi')]; simp
    have Kb : ∀ s o l, (K s ++ o :: l)[h.length]? = some o := by intro s o l; rw [← Klen s]; simp
    have Kr : ∀ s o l r, (K s ++ o :: (l ++ [r]))[h.length + (l.length + 1)]? = some r := by intro s o l r; rw [← Klen s, hget_add]; simp
    have Krs : ∀ s o l r r', (K s ++ o :: (l ++ [r])).set (h.length + (l.length + 1)) r' = K s ++ o :: (l ++ [r']) := by intro s o l r r'; rw [← Klen s, hset_add]; simp
    have K0 : h = K s := by subst hK; exact (hset_same hi).symm
    have Kf : ∀ s : Nat, h.set i (.row [.int .u64 (s : Int)] 25) = K s := by subst hK; simp
    rw [Kf]
    refine ACalls.heap (h1 := K s) ?_ K0.symm
    refine acalls_code (rs := []) Try.func10 rfl rfl rfl rfl Ty.mixed rfl ?_
    simp only [encG_mk]
    simp (disch := omega) only [go_sem, bne_self_eq_false, beq_self_eq_true, true_and, and_true, decide_true, decide_false, wrap_i64, ↓reduceIte, Nat.reduceAdd, Nat.reduceSub, Nat.reduceMul, Nat.reduceEqDiff, Nat.reduceLeDiff, Int.reduceAdd, Int.reduceSub, Int.reduceNeg, Int.reduceLT, Int.reduceLE, Int.reduceEq, Int.reduceToNat, Nat.reduceMod, Klen, Kb]
    refine aIf.intro (fun hp => ?_) (fun hp => ?_) <;> simp (disch := omega) only [go_sem, bne_self_eq_false, beq_self_eq_true, true_and, and_true, decide_true, decide_false, wrap_i64, ↓reduceIte, Nat.reduceAdd, Nat.reduceSub, Nat.reduceMul, Nat.reduceEqDiff, Nat.reduceLeDiff, Int.reduceAdd, Int.reduceSub, Int.reduceNeg, Int.reduceLT, Int.reduceLE, Int.reduceEq, Int.reduceToNat, Nat.reduceMod]
    · have hr2 := hr
      simp [rightF, hp] at hr2
      have hl : l = [] := hr2.2
      obtain ⟨m, rfl⟩ := Int.eq_ofNat_of_zero_le hp
      have hm : m < 64 := by omega
      have hp2 : 2 ^ m < 18446744073709551616 := by
        have : 2 ^ m < 2 ^ 64 := Nat.pow_lt_pow_right (by omega) hm
        exact this
      have hw : IntKind.u64.wrap (1 * 2 ^ min m 64) = ((2 ^ m : Nat) : Int) := by
        rw [show min m 64 = m by omega, Int.one_mul, show ((2 : Int) ^ m) = ((2 ^ m : Nat) : Int) by norm_cast]
        generalize (2 ^ m : Nat) = q at hp2 ⊢
        exact IntWalk.u64_in _ ⟨by omega, by omega⟩
      have hor := bits_or s (2 ^ m) hsb hp2
      have he : thereF (.mk m n l) s = thereL l (s ||| 2 ^ m) := by rw [thereF, if_pos hp]; rfl
      have hlt := hor.2
      have hrl : ∀ x ∈ l, rightF x = true := by subst hl; simp
      rw [he]
      simp (disch := omega) only [go_sem, bne_self_eq_false, beq_self_eq_true, true_and, and_true, decide_true, decide_false, wrap_i64, ↓reduceIte, Nat.reduceAdd, Nat.reduceSub, Nat.reduceMul, Nat.reduceEqDiff, Nat.reduceLeDiff, Int.reduceAdd, Int.reduceSub, Int.reduceNeg, Int.reduceLT, Int.reduceLE, Int.reduceEq, Int.reduceToNat, Nat.reduceMod, Ki, Kb, Int.toNat_natCast, hw, hor.1, Ks]
      clear he hw hor hr hr2
      generalize s ||| 2 ^ m = s1 at hlt ⊢
      refine awp_loopL (β := Nat × AH) l [17, 16, 15, 2] (fun don _ => [(17, .int .i64 don.length), (16, .int .i64 l.length), (15, .sl (l.map encG) .free), (2, .ptr (some (j, 0)))])
        (fun b => K b.1 ++ AObj.row [_, _, _] 24 :: b.2) (fun don rest b => b.1 < 18446744073709551616 ∧ thereL l s1 = thereL rest b.1) (s1, []) ?_ rfl ⟨hlt, rfl⟩ Ty.mixed rfl ?_ ?_
      · simp (disch := omega) only [go_sem, bne_self_eq_false, beq_self_eq_true, true_and, and_true, decide_true, decide_false, wrap_i64, ↓reduceIte, Nat.reduceAdd, Nat.reduceSub, Nat.reduceMul, Nat.reduceEqDiff, Nat.reduceLeDiff, Int.reduceAdd, Int.reduceSub, Int.reduceNeg, Int.reduceLT, Int.reduceLE, Int.reduceEq, Int.reduceToNat, Nat.reduceMod]
      · rintro don x r ⟨b, jk⟩ rfl ⟨hb, hx⟩
        have hl3 := len_mid hl1
        simp only at hb hx ⊢
        simp (disch := omega) only [go_sem, bne_self_eq_false, beq_self_eq_true, true_and, and_true, decide_true, decide_false, wrap_i64, ↓reduceIte, Nat.reduceAdd, Nat.reduceSub, Nat.reduceMul, Nat.reduceEqDiff, Nat.reduceLeDiff, Int.reduceAdd, Int.reduceSub, Int.reduceNeg, Int.reduceLT, Int.reduceLE, Int.reduceEq, Int.reduceToNat, Nat.reduceMod, List.map_append, List.map_cons, List.length_append]
        refine aIf.pos (by omega) ?_
        simp (disch := omega) only [go_sem, bne_self_eq_false, beq_self_eq_true, true_and, and_true, decide_true, decide_false, wrap_i64, ↓reduceIte, Nat.reduceAdd, Nat.reduceSub, Nat.reduceMul, Nat.reduceEqDiff, Nat.reduceLeDiff, Int.reduceAdd, Int.reduceSub, Int.reduceNeg, Int.reduceLT, Int.reduceLE, Int.reduceEq, Int.reduceToNat, Nat.reduceMod, Klen, Kr, Krs, Kj, markV]
        refine ACalls.detH (mark_calls_k Γ k x b _ i j (mem_sz (by simp) hsz) (hs.mem x (by simp)) (hrl x (by simp)) hb (Ki _ _) (Kj _ _)) ?_
        simp (disch := omega) only [go_sem, bne_self_eq_false, beq_self_eq_true, true_and, and_true, decide_true, decide_false, wrap_i64, ↓reduceIte, Nat.reduceAdd, Nat.reduceSub, Nat.reduceMul, Nat.reduceEqDiff, Nat.reduceLeDiff, Int.reduceAdd, Int.reduceSub, Int.reduceNeg, Int.reduceLT, Int.reduceLE, Int.reduceEq, Int.reduceToNat, Nat.reduceMod, Ks]
        refine roundL_next (thereF x b, jk ++ [.row (encG x).cells 24]) ⟨thereF_lt x b (hrl x (by simp)) hb, by rw [hx]; rfl⟩ ?_ rfl
        simp (disch := omega) only [go_sem, bne_self_eq_false, beq_self_eq_true, true_and, and_true, decide_true, decide_false, wrap_i64, ↓reduceIte, Nat.reduceAdd, Nat.reduceSub, Nat.reduceMul, Nat.reduceEqDiff, Nat.reduceLeDiff, Int.reduceAdd, Int.reduceSub, Int.reduceNeg, Int.reduceLT, Int.reduceLE, Int.reduceEq, Int.reduceToNat, Nat.reduceMod, List.map_append, List.map_cons, List.length_append]
      · rintro ⟨b, jk⟩ ⟨hb, hx⟩
        simp only at hb hx ⊢
        simp (disch := omega) only [go_sem, bne_self_eq_false, beq_self_eq_true, true_and, and_true, decide_true, decide_false, wrap_i64, ↓reduceIte, Nat.reduceAdd, Nat.reduceSub, Nat.reduceMul, Nat.reduceEqDiff, Nat.reduceLeDiff, Int.reduceAdd, Int.reduceSub, Int.reduceNeg, Int.reduceLT, Int.reduceLE, Int.reduceEq, Int.reduceToNat, Nat.reduceMod]
        rw [hx]
        exact ⟨_, rfl⟩
    · simp (disch := omega) only [go_sem, bne_self_eq_false, beq_self_eq_true, true_and, and_true, decide_true, decide_false, wrap_i64, ↓reduceIte, Nat.reduceAdd, Nat.reduceSub, Nat.reduceMul, Nat.reduceEqDiff, Nat.reduceLeDiff, Int.reduceAdd, Int.reduceSub, Int.reduceNeg, Int.reduceLT, Int.reduceLE, Int.reduceEq, Int.reduceToNat, Nat.reduceMod, Kb]
      have he : thereF (.mk p n l) s = thereL l s := by rw [thereF, if_neg hp]
      have hlt := hsb
      have hrl := ((right_mk hp).1 hr).2.2.2
      rw [he]
      clear he
      generalize hs1 : s = s1 at hlt ⊢
      refine awp_loopL (β := Nat × AH) l [17, 16, 15, 2] (fun don _ => [(17, .int .i64 don.length), (16, .int .i64 l.length), (15, .sl (l.map encG) .free), (2, .ptr (some (j, 0)))])
        (fun b => K b.1 ++ AObj.row [_, _, _] 24 :: b.2) (fun don rest b => b.1 < 18446744073709551616 ∧ thereL l s1 = thereL rest b.1) (s1, []) ?_ rfl ⟨hlt, rfl⟩ Ty.mixed rfl ?_ ?_
      · simp (disch := omega) only [go_sem, bne_self_eq_false, beq_self_eq_true, true_and, and_true, decide_true, decide_false, wrap_i64, ↓reduceIte, Nat.reduceAdd, Nat.reduceSub, Nat.reduceMul, Nat.reduceEqDiff, Nat.reduceLeDiff, Int.reduceAdd, Int.reduceSub, Int.reduceNeg, Int.reduceLT, Int.reduceLE, Int.reduceEq, Int.reduceToNat, Nat.reduceMod]
      · rintro don x r ⟨b, jk⟩ rfl ⟨hb, hx⟩
        have hl3 := len_mid hl1
        simp only at hb hx ⊢
        simp (disch := omega) only [go_sem, bne_self_eq_false, beq_self_eq_true, true_and, and_true, decide_true, decide_false, wrap_i64, ↓reduceIte, Nat.reduceAdd, Nat.reduceSub, Nat.reduceMul, Nat.reduceEqDiff, Nat.reduceLeDiff, Int.reduceAdd, Int.reduceSub, Int.reduceNeg, Int.reduceLT, Int.reduceLE, Int.reduceEq, Int.reduceToNat, Nat.reduceMod, List.map_append, List.map_cons, List.length_append]
        refine aIf.pos (by omega) ?_
        simp (disch := omega) only [go_sem, bne_self_eq_false, beq_self_eq_true, true_and, and_true, decide_true, decide_false, wrap_i64, ↓reduceIte, Nat.reduceAdd, Nat.reduceSub, Nat.reduceMul, Nat.reduceEqDiff, Nat.reduceLeDiff, Int.reduceAdd, Int.reduceSub, Int.reduceNeg, Int.reduceLT, Int.reduceLE, Int.reduceEq, Int.reduceToNat, Nat.reduceMod, Klen, Kr, Krs, Kj, markV]
        refine ACalls.detH (mark_calls_k Γ k x b _ i j (mem_sz (by simp) hsz) (hs.mem x (by simp)) (hrl x (by simp)) hb (Ki _ _) (Kj _ _)) ?_
        simp (disch := omega) only [go_sem, bne_self_eq_false, beq_self_eq_true, true_and, and_true, decide_true, decide_false, wrap_i64, ↓reduceIte, Nat.reduceAdd, Nat.reduceSub, Nat.reduceMul, Nat.reduceEqDiff, Nat.reduceLeDiff, Int.reduceAdd, Int.reduceSub, Int.reduceNeg, Int.reduceLT, Int.reduceLE, Int.reduceEq, Int.reduceToNat, Nat.reduceMod, Ks]
        refine roundL_next (thereF x b, jk ++ [.row (encG x).cells 24]) ⟨thereF_lt x b (hrl x (by simp)) hb, by rw [hx]; rfl⟩ ?_ rfl
        simp (disch := omega) only [go_sem, bne_self_eq_false, beq_self_eq_true, true_and, and_true, decide_true, decide_false, wrap_i64, ↓reduceIte, Nat.reduceAdd, Nat.reduceSub, Nat.reduceMul, Nat.reduceEqDiff, Nat.reduceLeDiff, Int.reduceAdd, Int.reduceSub, Int.reduceNeg, Int.reduceLT, Int.reduceLE, Int.reduceEq, Int.reduceToNat, Nat.reduceMod, List.map_append, List.map_cons, List.length_append]
      · rintro ⟨b, jk⟩ ⟨hb, hx⟩
        simp only at hb hx ⊢
        simp (disch := omega) only [go_sem, bne_self_eq_false, beq_self_eq_true, true_and, and_true, decide_true, decide_false, wrap_i64, ↓reduceIte, Nat.reduceAdd, Nat.reduceSub, Nat.reduceMul, Nat.reduceEqDiff, Nat.reduceLeDiff, Int.reduceAdd, Int.reduceSub, Int.reduceNeg, Int.reduceLT, Int.reduceLE, Int.reduceEq, Int.reduceToNat, Nat.reduceMod]
        rw [hx]
        exact ⟨_, rfl⟩
theorem mark_calls (Γ : Nat → Option (List AV)) (g : Gt) (s : Nat) (h : AH) (i j : Nat) (hs : Sh g) (hr : rightF g = true) (hb : s < 18446744073709551616) (hi : h[i]? = some (.row [.int .u64 s] 25)) (hj : h[j]? = some (.row [markV i j] 33)) :
    ACalls Try.prog Γ 10 [encG g, .ptr (some (i, 0)), .ptr (some (j, 0))] h fun v h' => h' = h.set i (.row [.int .u64 (thereF g s)] 25) ∧ v = .tuple [] :=
  mark_calls_k Γ _ g s h i j (Nat.lt_succ_self _) hs hr hb hi hj

theorem WB_nat (a : Nat) (p : Int) : WB (a : Int) p = (decide (0 ≤ p ∧ p < 64) && a.testBit p.toNat) := by
  rw [WB, Bool.eq_iff_iff]
  simp [mem_ppl, bitOf, and_assoc]
theorem mono_or (a b : Nat) (p : Int) (h : WB (a : Int) p = true) : WB ((a ||| b : Nat) : Int) p = true := by
  rw [WB_nat] at h ⊢
  simp only [Bool.and_eq_true] at h ⊢
  exact ⟨h.1, by rw [Nat.testBit_or, h.2]; rfl⟩
mutual
theorem inG_nn : ∀ (g : Gt) (q : Int), inG q g = true → 0 ≤ q
  | .mk p n l, q, h => by
    rw [inG, Bool.or_eq_true, decide_eq_true_eq] at h
    rcases h with h | h
    · omega
    · exact inL_nn l q h
theorem inL_nn : ∀ (l : List Gt) (q : Int), inL q l = true → 0 ≤ q
  | [], q, h => by simp [inL] at h
  | x :: r, q, h => by
    rw [inL, Bool.or_eq_true] at h
    rcases h with h | h
    · exact inG_nn x q h
    · exact inL_nn r q h
end
theorem and_there (a : Nat) (g : Gt) (p : Int) (h : inG p g = true) : WB (a : Int) p = WB ((a &&& thereF g 0 : Nat) : Int) p := by
  have hp := inG_nn g p h
  rw [WB_nat, WB_nat, Nat.testBit_and, thereF_bit, Int.toNat_of_nonneg hp, h]
  simp

theorem monotone_calls (Γ : Nat → Option (List AV)) (g : Gt) (a b : Nat) (h : AH) (hs : Sh g) (ha : a < 18446744073709551616) (hb : b < 18446744073709551616) :
    ACalls Try.prog Γ 3 [encG g, .int .u64 a, .int .u64 b] h fun v h' => h' = h ∧ v = .bool true := by
  refine ACalls.drop ?_
  have hor := bits_or a b ha hb
  refine acalls_code (rs := [.tmp 6]) Try.func3 rfl rfl rfl rfl Ty.mixed rfl ?_
  simp (disch := omega) only [go_sem, bne_self_eq_false, beq_self_eq_true, true_and, and_true, decide_true, decide_false, wrap_i64, ↓reduceIte, Nat.reduceAdd, Nat.reduceSub, Nat.reduceMul, Nat.reduceEqDiff, Nat.reduceLeDiff, Int.reduceAdd, Int.reduceSub, Int.reduceNeg, Int.reduceLT, Int.reduceLE, Int.reduceEq, Int.reduceToNat, Nat.reduceMod]
  refine ACalls.det (sane_calls Γ _) ?_
  simp (disch := omega) only [go_sem, bne_self_eq_false, beq_self_eq_true, true_and, and_true, decide_true, decide_false, wrap_i64, ↓reduceIte, Nat.reduceAdd, Nat.reduceSub, Nat.reduceMul, Nat.reduceEqDiff, Nat.reduceLeDiff, Int.reduceAdd, Int.reduceSub, Int.reduceNeg, Int.reduceLT, Int.reduceLE, Int.reduceEq, Int.reduceToNat, Nat.reduceMod]
  refine ACalls.det (small_calls Γ _ _ hs) ?_
  simp (disch := omega) only [go_sem, bne_self_eq_false, beq_self_eq_true, true_and, and_true, decide_true, decide_false, wrap_i64, ↓reduceIte, Nat.reduceAdd, Nat.reduceSub, Nat.reduceMul, Nat.reduceEqDiff, Nat.reduceLeDiff, Int.reduceAdd, Int.reduceSub, Int.reduceNeg, Int.reduceLT, Int.reduceLE, Int.reduceEq, Int.reduceToNat, Nat.reduceMod]
  refine aBr.intro (fun hsm => ?_) (fun hsm => ?_) <;> simp (disch := omega) only [go_sem, bne_self_eq_false, beq_self_eq_true, true_and, and_true, decide_true, decide_false, wrap_i64, ↓reduceIte, Nat.reduceAdd, Nat.reduceSub, Nat.reduceMul, Nat.reduceEqDiff, Nat.reduceLeDiff, Int.reduceAdd, Int.reduceSub, Int.reduceNeg, Int.reduceLT, Int.reduceLE, Int.reduceEq, Int.reduceToNat, Nat.reduceMod]
  obtain ⟨hck, _⟩ := smallF_of hsm
  have hrt := ((check0 _).1 hck).2.2
  refine aCallF.intro (people_calls Γ a _ (by omega)) ?_
  rw [encP_I]
  simp (disch := omega) only [go_sem, bne_self_eq_false, beq_self_eq_true, true_and, and_true, decide_true, decide_false, wrap_i64, ↓reduceIte, Nat.reduceAdd, Nat.reduceSub, Nat.reduceMul, Nat.reduceEqDiff, Nat.reduceLeDiff, Int.reduceAdd, Int.reduceSub, Int.reduceNeg, Int.reduceLT, Int.reduceLE, Int.reduceEq, Int.reduceToNat, Nat.reduceMod]
  refine aCallF.intro (Holds_calls Γ _ (pplI a) _ hs (len_ppl _)) ?_
  rw [holdsR_ppl hck]
  simp (disch := omega) only [go_sem, bne_self_eq_false, beq_self_eq_true, true_and, and_true, decide_true, decide_false, wrap_i64, ↓reduceIte, Nat.reduceAdd, Nat.reduceSub, Nat.reduceMul, Nat.reduceEqDiff, Nat.reduceLeDiff, Int.reduceAdd, Int.reduceSub, Int.reduceNeg, Int.reduceLT, Int.reduceLE, Int.reduceEq, Int.reduceToNat, Nat.reduceMod, encR, hor.1]
  refine aCallF.intro (people_calls Γ ((a ||| b : Nat) : Int) _ (by omega)) ?_
  rw [encP_I]
  simp (disch := omega) only [go_sem, bne_self_eq_false, beq_self_eq_true, true_and, and_true, decide_true, decide_false, wrap_i64, ↓reduceIte, Nat.reduceAdd, Nat.reduceSub, Nat.reduceMul, Nat.reduceEqDiff, Nat.reduceLeDiff, Int.reduceAdd, Int.reduceSub, Int.reduceNeg, Int.reduceLT, Int.reduceLE, Int.reduceEq, Int.reduceToNat, Nat.reduceMod]
  refine aCallF.intro (Holds_calls Γ _ (pplI ((a ||| b : Nat) : Int)) _ hs (len_ppl _)) ?_
  rw [holdsR_ppl hck]
  simp (disch := omega) only [go_sem, bne_self_eq_false, beq_self_eq_true, true_and, and_true, decide_true, decide_false, wrap_i64, ↓reduceIte, Nat.reduceAdd, Nat.reduceSub, Nat.reduceMul, Nat.reduceEqDiff, Nat.reduceLeDiff, Int.reduceAdd, Int.reduceSub, Int.reduceNeg, Int.reduceLT, Int.reduceLE, Int.reduceEq, Int.reduceToNat, Nat.reduceMod, encR]
  have hnil : holdsR g [] = (false, 0) := by
    rw [holdsR, if_pos hck]
    have : (fun p : Int => decide (p ∈ ([] : List Int))) = fun _ => false := by funext p; simp
    rw [this, holdsF_none g hrt]; rfl
  refine ACalls.det ((Holds_calls Γ g [] _ hs (by simp)).ofLoose (by simp only [looseL, loose, loose_G, encI, List.map_nil])) ?_
  rw [hnil]
  simp (disch := omega) only [go_sem, bne_self_eq_false, beq_self_eq_true, true_and, and_true, decide_true, decide_false, wrap_i64, ↓reduceIte, Nat.reduceAdd, Nat.reduceSub, Nat.reduceMul, Nat.reduceEqDiff, Nat.reduceLeDiff, Int.reduceAdd, Int.reduceSub, Int.reduceNeg, Int.reduceLT, Int.reduceLE, Int.reduceEq, Int.reduceToNat, Nat.reduceMod, encR]
  have hmono := holdsF_mono (mono_or a b) g hrt
  have hth := thereF_lt g 0 hrt (by omega)
  have hand := bits_and a (thereF g 0) ha
  have hin : holdsF (WB (a : Int)) g = holdsF (WB ((a &&& thereF g 0 : Nat) : Int)) g := holdsF_in g (fun p hp => and_there a g p hp) hrt
  obtain ⟨q, hq⟩ : ∃ q, holdsF (WB (a : Int)) g = q := ⟨_, rfl⟩
  rw [hq] at hmono hin ⊢
  have key : ∀ R : Prop, (q = true → holdsF (WB ((a ||| b : Nat) : Int)) g = true → R) → (q = false → R) → R := fun R h1 h2 => by
    cases q with
    | true => exact h1 rfl (hmono rfl)
    | false => exact h2 rfl
  refine key _ (fun e1 e2 => ?_) (fun e1 => ?_)
  · subst e1
    rw [e2]
    simp (disch := omega) only [go_sem, bne_self_eq_false, beq_self_eq_true, true_and, and_true, decide_true, decide_false, wrap_i64, ↓reduceIte, Nat.reduceAdd, Nat.reduceSub, Nat.reduceMul, Nat.reduceEqDiff, Nat.reduceLeDiff, Int.reduceAdd, Int.reduceSub, Int.reduceNeg, Int.reduceLT, Int.reduceLE, Int.reduceEq, Int.reduceToNat, Nat.reduceMod]
    refine ACalls.detH (mark_calls Γ g 0 _ (h.length + 1) (h.length + 2) hs hrt (by omega) (by simp (disch := omega) only [go_sem, bne_self_eq_false, beq_self_eq_true, true_and, and_true, decide_true, decide_false, wrap_i64, ↓reduceIte, Nat.reduceAdd, Nat.reduceSub, Nat.reduceMul, Nat.reduceEqDiff, Nat.reduceLeDiff, Int.reduceAdd, Int.reduceSub, Int.reduceNeg, Int.reduceLT, Int.reduceLE, Int.reduceEq, Int.reduceToNat, Nat.reduceMod] <;> rfl) (by simp (disch := omega) only [go_sem, bne_self_eq_false, beq_self_eq_true, true_and, and_true, decide_true, decide_false, wrap_i64, ↓reduceIte, Nat.reduceAdd, Nat.reduceSub, Nat.reduceMul, Nat.reduceEqDiff, Nat.reduceLeDiff, Int.reduceAdd, Int.reduceSub, Int.reduceNeg, Int.reduceLT, Int.reduceLE, Int.reduceEq, Int.reduceToNat, Nat.reduceMod, markV])) ?_
    simp (disch := omega) only [go_sem, bne_self_eq_false, beq_self_eq_true, true_and, and_true, decide_true, decide_false, wrap_i64, ↓reduceIte, Nat.reduceAdd, Nat.reduceSub, Nat.reduceMul, Nat.reduceEqDiff, Nat.reduceLeDiff, Int.reduceAdd, Int.reduceSub, Int.reduceNeg, Int.reduceLT, Int.reduceLE, Int.reduceEq, Int.reduceToNat, Nat.reduceMod, hand]
    refine aCallF.intro (people_calls Γ ((a &&& thereF g 0 : Nat) : Int) _ (by omega)) ?_
    rw [encP_I]
    simp (disch := omega) only [go_sem, bne_self_eq_false, beq_self_eq_true, true_and, and_true, decide_true, decide_false, wrap_i64, ↓reduceIte, Nat.reduceAdd, Nat.reduceSub, Nat.reduceMul, Nat.reduceEqDiff, Nat.reduceLeDiff, Int.reduceAdd, Int.reduceSub, Int.reduceNeg, Int.reduceLT, Int.reduceLE, Int.reduceEq, Int.reduceToNat, Nat.reduceMod]
    refine aCallF.intro (Holds_calls Γ _ (pplI ((a &&& thereF g 0 : Nat) : Int)) _ hs (len_ppl _)) ?_
    rw [holdsR_ppl hck, ← hin]
    simp (disch := omega) only [go_sem, bne_self_eq_false, beq_self_eq_true, true_and, and_true, decide_true, decide_false, wrap_i64, ↓reduceIte, Nat.reduceAdd, Nat.reduceSub, Nat.reduceMul, Nat.reduceEqDiff, Nat.reduceLeDiff, Int.reduceAdd, Int.reduceSub, Int.reduceNeg, Int.reduceLT, Int.reduceLE, Int.reduceEq, Int.reduceToNat, Nat.reduceMod, encR]
  · subst e1
    simp (disch := omega) only [go_sem, bne_self_eq_false, beq_self_eq_true, true_and, and_true, decide_true, decide_false, wrap_i64, ↓reduceIte, Nat.reduceAdd, Nat.reduceSub, Nat.reduceMul, Nat.reduceEqDiff, Nat.reduceLeDiff, Int.reduceAdd, Int.reduceSub, Int.reduceNeg, Int.reduceLT, Int.reduceLE, Int.reduceEq, Int.reduceToNat, Nat.reduceMod]
    refine ACalls.detH (mark_calls Γ g 0 _ (h.length + 1) (h.length + 2) hs hrt (by omega) (by simp (disch := omega) only [go_sem, bne_self_eq_false, beq_self_eq_true, true_and, and_true, decide_true, decide_false, wrap_i64, ↓reduceIte, Nat.reduceAdd, Nat.reduceSub, Nat.reduceMul, Nat.reduceEqDiff, Nat.reduceLeDiff, Int.reduceAdd, Int.reduceSub, Int.reduceNeg, Int.reduceLT, Int.reduceLE, Int.reduceEq, Int.reduceToNat, Nat.reduceMod] <;> rfl) (by simp (disch := omega) only [go_sem, bne_self_eq_false, beq_self_eq_true, true_and, and_true, decide_true, decide_false, wrap_i64, ↓reduceIte, Nat.reduceAdd, Nat.reduceSub, Nat.reduceMul, Nat.reduceEqDiff, Nat.reduceLeDiff, Int.reduceAdd, Int.reduceSub, Int.reduceNeg, Int.reduceLT, Int.reduceLE, Int.reduceEq, Int.reduceToNat, Nat.reduceMod, markV])) ?_
    simp (disch := omega) only [go_sem, bne_self_eq_false, beq_self_eq_true, true_and, and_true, decide_true, decide_false, wrap_i64, ↓reduceIte, Nat.reduceAdd, Nat.reduceSub, Nat.reduceMul, Nat.reduceEqDiff, Nat.reduceLeDiff, Int.reduceAdd, Int.reduceSub, Int.reduceNeg, Int.reduceLT, Int.reduceLE, Int.reduceEq, Int.reduceToNat, Nat.reduceMod, hand]
    refine aCallF.intro (people_calls Γ ((a &&& thereF g 0 : Nat) : Int) _ (by omega)) ?_
    rw [encP_I]
    simp (disch := omega) only [go_sem, bne_self_eq_false, beq_self_eq_true, true_and, and_true, decide_true, decide_false, wrap_i64, ↓reduceIte, Nat.reduceAdd, Nat.reduceSub, Nat.reduceMul, Nat.reduceEqDiff, Nat.reduceLeDiff, Int.reduceAdd, Int.reduceSub, Int.reduceNeg, Int.reduceLT, Int.reduceLE, Int.reduceEq, Int.reduceToNat, Nat.reduceMod]
    refine aCallF.intro (Holds_calls Γ _ (pplI ((a &&& thereF g 0 : Nat) : Int)) _ hs (len_ppl _)) ?_
    rw [holdsR_ppl hck, ← hin]
    simp (disch := omega) only [go_sem, bne_self_eq_false, beq_self_eq_true, true_and, and_true, decide_true, decide_false, wrap_i64, ↓reduceIte, Nat.reduceAdd, Nat.reduceSub, Nat.reduceMul, Nat.reduceEqDiff, Nat.reduceLeDiff, Int.reduceAdd, Int.reduceSub, Int.reduceNeg, Int.reduceLT, Int.reduceLE, Int.reduceEq, Int.reduceToNat, Nat.reduceMod, encR]
end Go.Proofs.Ytkcpnmphlanocaa
