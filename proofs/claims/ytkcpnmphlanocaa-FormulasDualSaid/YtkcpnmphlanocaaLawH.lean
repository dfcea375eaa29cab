/- The statement on dual formulas: what its code hands back. No conditions. -/
import Derived.Test.YtkcpnmphlanocaaLawF
set_option linter.unusedSimpArgs false
set_option linter.unusedVariables false
namespace Go.Proofs.Ytkcpnmphlanocaa
open Go Go.Proofs Go.Abs

mutual
def dualF : Gt → Gt × Bool
  | .mk p n l => if 0 ≤ p then (.mk p n l, true) else if (l.length : Int) < n then (.mk 0 0 [], false) else dualL ((l.length : Int) - n + 1) l []
def dualL : Int → List Gt → List Gt → Gt × Bool
  | m, [], acc => (.mk (-1) m acc, true)
  | m, x :: r, acc => if (dualF x).2 then dualL m r (acc ++ [(dualF x).1]) else (.mk (-1) m acc, false)
end

theorem dual_calls_k (Γ : Nat → Option (List AV)) : ∀ (k : Nat) (g : Gt) (h : AH), SizeOf.sizeOf g < k → Sh g → rightF g = true → allLeaves g ≤ 60 →
    ACalls Try.prog Γ 11 [encG g] h fun v h' => h' = h ∧ v = .tuple [encG (dualF g).1, .bool (dualF g).2]
  | 0, _, _, hk, _, _, _ => absurd hk (Nat.not_lt_zero _)
  | k + 1, .mk p n l, h, hsz, hs, hr, hlv => by
    refine ACalls.dropL ?_
    have hl1 := hs.len
    refine acalls_code (rs := [.cell 2 24, .tmp 3]) Try.func11 rfl rfl rfl rfl Ty.mixed rfl ?_
    simp only [encG_mk]
    simp (disch := omega) only [go_sem, bne_self_eq_false, beq_self_eq_true, true_and, and_true, decide_true, decide_false, wrap_i64, ↓reduceIte, Nat.reduceAdd, Nat.reduceSub, Nat.reduceMul, Nat.reduceEqDiff, Nat.reduceLeDiff, Int.reduceAdd, Int.reduceSub, Int.reduceNeg, Int.reduceLT, Int.reduceLE, Int.reduceEq, Int.reduceToNat, Nat.reduceMod]
    refine aIf.intro (fun hp => ?_) (fun hp => ?_) <;> simp (disch := omega) only [go_sem, bne_self_eq_false, beq_self_eq_true, true_and, and_true, decide_true, decide_false, wrap_i64, ↓reduceIte, Nat.reduceAdd, Nat.reduceSub, Nat.reduceMul, Nat.reduceEqDiff, Nat.reduceLeDiff, Int.reduceAdd, Int.reduceSub, Int.reduceNeg, Int.reduceLT, Int.reduceLE, Int.reduceEq, Int.reduceToNat, Nat.reduceMod]
    · simp only [dualF, if_pos hp]
      simp (disch := omega) only [go_sem, bne_self_eq_false, beq_self_eq_true, true_and, and_true, decide_true, decide_false, wrap_i64, ↓reduceIte, Nat.reduceAdd, Nat.reduceSub, Nat.reduceMul, Nat.reduceEqDiff, Nat.reduceLeDiff, Int.reduceAdd, Int.reduceSub, Int.reduceNeg, Int.reduceLT, Int.reduceLE, Int.reduceEq, Int.reduceToNat, Nat.reduceMod, encG_mk]
    have hN := (right_mk hp).1 hr
    have hl60 : l.length ≤ 60 := by
      have := len_leaves l
      rw [allLeaves_mk] at hlv
      split at hlv
      · subst l; simp
      · omega
    have hlvx : ∀ x ∈ l, allLeaves x ≤ 60 := fun x hx => by
      have := allLeavesL_mem hx
      rw [allLeaves_mk] at hlv
      split at hlv
      · subst l; cases hx
      · omega
    refine aIf.intro (fun hn => ?_) (fun hn => ?_) <;> simp (disch := omega) only [go_sem, bne_self_eq_false, beq_self_eq_true, true_and, and_true, decide_true, decide_false, wrap_i64, ↓reduceIte, Nat.reduceAdd, Nat.reduceSub, Nat.reduceMul, Nat.reduceEqDiff, Nat.reduceLeDiff, Int.reduceAdd, Int.reduceSub, Int.reduceNeg, Int.reduceLT, Int.reduceLE, Int.reduceEq, Int.reduceToNat, Nat.reduceMod]
    · simp only [dualF, if_neg hp, if_pos hn]
      simp (disch := omega) only [go_sem, bne_self_eq_false, beq_self_eq_true, true_and, and_true, decide_true, decide_false, wrap_i64, ↓reduceIte, Nat.reduceAdd, Nat.reduceSub, Nat.reduceMul, Nat.reduceEqDiff, Nat.reduceLeDiff, Int.reduceAdd, Int.reduceSub, Int.reduceNeg, Int.reduceLT, Int.reduceLE, Int.reduceEq, Int.reduceToNat, Nat.reduceMod, encG_mk, List.map_nil]
    have he : dualF (.mk p n l) = dualL ((l.length : Int) - n + 1) l [] := by rw [dualF, if_neg hp, if_neg hn]
    rw [he]
    obtain ⟨m, hm⟩ : ∃ m, (l.length : Int) - n + 1 = m := ⟨_, rfl⟩
    have hm1 : 1 ≤ m ∧ m ≤ 60 := by omega
    rw [hm]
    obtain ⟨K, hK⟩ : ∃ K : List Gt → Abs.Own → AH, K = fun a o => h ++ [AObj.row [.int .i64 p, .int .i64 n, .sl (l.map encG) .free] 24, AObj.row [.int .i64 (-1), .int .i64 m, .sl (a.map encG) o] 24] := ⟨_, rfl⟩
    have Klen : ∀ a o, (K a o).length = h.length + 2 := by subst hK; simp
    have Kd : ∀ a o j, (K a o ++ j)[h.length + 1]? = some (.row [.int .i64 (-1), .int .i64 m, .sl (a.map encG) o] 24) := by subst hK; simp
    have Ks : ∀ a o j a' o', (K a o ++ j).set (h.length + 1) (.row [.int .i64 (-1), .int .i64 m, .sl (a'.map encG) o'] 24) = K a' o' ++ j := by subst hK; simp
    have Kr : ∀ a o j r l, (K a o ++ (j ++ r :: l))[h.length + 2 + j.length]? = some r := by intro a o j r l; rw [← Klen a o, hget_add]; simp
    have Krs : ∀ a o j r l r', (K a o ++ (j ++ r :: l)).set (h.length + 2 + j.length) r' = K a o ++ (j ++ r' :: l) := by intro a o j r l r'; rw [← Klen a o, hset_add]; simp
    have Kq : ∀ a o j r q l, (K a o ++ (j ++ r :: q :: l))[h.length + 2 + (j.length + 1)]? = some q := by intro a o j r q l; rw [← Klen a o, hget_add]; simp
    have Kqs : ∀ a o j r q l q', (K a o ++ (j ++ r :: q :: l)).set (h.length + 2 + (j.length + 1)) q' = K a o ++ (j ++ r :: q' :: l) := by intro a o j r q l q'; rw [← Klen a o, hset_add]; simp
    have Kap : ∀ a o j, ∃ l, K a o ++ j = h ++ l := by subst hK; exact fun a o j => ⟨_, List.append_assoc ..⟩
    refine awp_loopL (β := List Gt × Abs.Own × AH) l [30, 29, 28, 2] (fun don _ => [(30, .int .i64 don.length), (29, .int .i64 l.length), (28, .sl (l.map encG) .free), (2, .ptr (some (h.length + 1, 0)))])
      (fun b => K b.1 b.2.1 ++ b.2.2) (fun don rest b => b.1.length = don.length ∧ OwnAt (K b.1 b.2.1) b.2.2 b.1.length b.2.1 ∧ dualL m l [] = dualL m rest b.1) ([], .full, []) ?_ ?_ ⟨rfl, trivial, rfl⟩ Ty.mixed rfl ?_ ?_
    · simp (disch := omega) only [go_sem, bne_self_eq_false, beq_self_eq_true, true_and, and_true, decide_true, decide_false, wrap_i64, ↓reduceIte, Nat.reduceAdd, Nat.reduceSub, Nat.reduceMul, Nat.reduceEqDiff, Nat.reduceLeDiff, Int.reduceAdd, Int.reduceSub, Int.reduceNeg, Int.reduceLT, Int.reduceLE, Int.reduceEq, Int.reduceToNat, Nat.reduceMod]
    · subst hK; simp only [List.append_nil, List.map_nil]
    · rintro don x r ⟨acc, own, j⟩ rfl ⟨hla, ho, hx⟩
      have hl3 := len_mid hl1
      have hl4 := len_mid hl60
      simp only at hla ho hx ⊢
      simp (disch := omega) only [go_sem, bne_self_eq_false, beq_self_eq_true, true_and, and_true, decide_true, decide_false, wrap_i64, ↓reduceIte, Nat.reduceAdd, Nat.reduceSub, Nat.reduceMul, Nat.reduceEqDiff, Nat.reduceLeDiff, Int.reduceAdd, Int.reduceSub, Int.reduceNeg, Int.reduceLT, Int.reduceLE, Int.reduceEq, Int.reduceToNat, Nat.reduceMod, List.map_append, List.map_cons, List.length_append]
      refine aIf.pos (by omega) ?_
      simp (disch := omega) only [go_sem, bne_self_eq_false, beq_self_eq_true, true_and, and_true, decide_true, decide_false, wrap_i64, ↓reduceIte, Nat.reduceAdd, Nat.reduceSub, Nat.reduceMul, Nat.reduceEqDiff, Nat.reduceLeDiff, Int.reduceAdd, Int.reduceSub, Int.reduceNeg, Int.reduceLT, Int.reduceLE, Int.reduceEq, Int.reduceToNat, Nat.reduceMod, Klen, Kr, Krs]
      refine ACalls.det (dual_calls_k Γ k x _ (mem_sz (by simp) hsz) (hs.mem x (by simp)) (hN.2.2.2 x (by simp)) (hlvx x (by simp))) ?_
      simp (disch := omega) only [go_sem, bne_self_eq_false, beq_self_eq_true, true_and, and_true, decide_true, decide_false, wrap_i64, ↓reduceIte, Nat.reduceAdd, Nat.reduceSub, Nat.reduceMul, Nat.reduceEqDiff, Nat.reduceLeDiff, Int.reduceAdd, Int.reduceSub, Int.reduceNeg, Int.reduceLT, Int.reduceLE, Int.reduceEq, Int.reduceToNat, Nat.reduceMod, Klen, Kq, Kqs]
      refine aBr.intro (fun hd => ?_) (fun hd => ?_) <;> simp (disch := omega) only [go_sem, bne_self_eq_false, beq_self_eq_true, true_and, and_true, decide_true, decide_false, wrap_i64, ↓reduceIte, Nat.reduceAdd, Nat.reduceSub, Nat.reduceMul, Nat.reduceEqDiff, Nat.reduceLeDiff, Int.reduceAdd, Int.reduceSub, Int.reduceNeg, Int.reduceLT, Int.reduceLE, Int.reduceEq, Int.reduceToNat, Nat.reduceMod]
      · have e : List.map encG acc ++ [encG (dualF x).1] = List.map encG (acc ++ [(dualF x).1]) := by simp
        simp (disch := omega) only [go_sem, bne_self_eq_false, beq_self_eq_true, true_and, and_true, decide_true, decide_false, wrap_i64, ↓reduceIte, Nat.reduceAdd, Nat.reduceSub, Nat.reduceMul, Nat.reduceEqDiff, Nat.reduceLeDiff, Int.reduceAdd, Int.reduceSub, Int.reduceNeg, Int.reduceLT, Int.reduceLE, Int.reduceEq, Int.reduceToNat, Nat.reduceMod, Kd, Kq]
        refine aAp_sl (by simpa using ho.app _) (rowsOK_G _) ?_ ?_ ?_ (fun j' own' ho' _ => ?_)
        · exact rowsOK_G [(dualF x).1]
        · rw [List.length_map]; simp; omega
        · rw [List.length_map]; simp; omega
        rw [e]
        simp (disch := omega) only [go_sem, bne_self_eq_false, beq_self_eq_true, true_and, and_true, decide_true, decide_false, wrap_i64, ↓reduceIte, Nat.reduceAdd, Nat.reduceSub, Nat.reduceMul, Nat.reduceEqDiff, Nat.reduceLeDiff, Int.reduceAdd, Int.reduceSub, Int.reduceNeg, Int.reduceLT, Int.reduceLE, Int.reduceEq, Int.reduceToNat, Nat.reduceMod, Kd, Ks]
        refine roundL_next (acc ++ [(dualF x).1], own', j') (And.intro ?_ (And.intro ?_ ?_)) ?_ rfl
        · simp [hla]
        · have : OwnAt (K acc own) j' (acc.length + 1) own' := by simpa using ho'
          revert this
          simp only [List.length_append, List.length_cons, List.length_nil, Nat.zero_add]
          cases own' with
          | full => exact fun _ => trivial
          | free => exact id
          | arena i => exact fun ⟨i', e1, e2⟩ => ⟨i', by rw [e1, Klen, Klen], e2⟩
        · rw [hx, dualL, if_pos hd]
        · simp (disch := omega) only [go_sem, bne_self_eq_false, beq_self_eq_true, true_and, and_true, decide_true, decide_false, wrap_i64, ↓reduceIte, Nat.reduceAdd, Nat.reduceSub, Nat.reduceMul, Nat.reduceEqDiff, Nat.reduceLeDiff, Int.reduceAdd, Int.reduceSub, Int.reduceNeg, Int.reduceLT, Int.reduceLE, Int.reduceEq, Int.reduceToNat, Nat.reduceMod, List.map_append, List.map_cons, List.length_append]
      · simp (disch := omega) only [go_sem, bne_self_eq_false, beq_self_eq_true, true_and, and_true, decide_true, decide_false, wrap_i64, ↓reduceIte, Nat.reduceAdd, Nat.reduceSub, Nat.reduceMul, Nat.reduceEqDiff, Nat.reduceLeDiff, Int.reduceAdd, Int.reduceSub, Int.reduceNeg, Int.reduceLT, Int.reduceLE, Int.reduceEq, Int.reduceToNat, Nat.reduceMod, Kd, Ks]
        rw [hx, dualL, if_neg (by simp at hd; simp [hd])]
        simp (disch := omega) only [go_sem, bne_self_eq_false, beq_self_eq_true, true_and, and_true, decide_true, decide_false, wrap_i64, ↓reduceIte, Nat.reduceAdd, Nat.reduceSub, Nat.reduceMul, Nat.reduceEqDiff, Nat.reduceLeDiff, Int.reduceAdd, Int.reduceSub, Int.reduceNeg, Int.reduceLT, Int.reduceLE, Int.reduceEq, Int.reduceToNat, Nat.reduceMod, encG_mk]
        exact Kap _ _ _
    · rintro ⟨acc, own, j⟩ ⟨hla, ho, hx⟩
      simp only at hla ho hx ⊢
      simp (disch := omega) only [go_sem, bne_self_eq_false, beq_self_eq_true, true_and, and_true, decide_true, decide_false, wrap_i64, ↓reduceIte, Nat.reduceAdd, Nat.reduceSub, Nat.reduceMul, Nat.reduceEqDiff, Nat.reduceLeDiff, Int.reduceAdd, Int.reduceSub, Int.reduceNeg, Int.reduceLT, Int.reduceLE, Int.reduceEq, Int.reduceToNat, Nat.reduceMod]
      refine AWP.keep [2] (aCode_ok Ty.mixed _ _ _ _ rfl ?_)
      simp (disch := omega) only [go_sem, bne_self_eq_false, beq_self_eq_true, true_and, and_true, decide_true, decide_false, wrap_i64, ↓reduceIte, Nat.reduceAdd, Nat.reduceSub, Nat.reduceMul, Nat.reduceEqDiff, Nat.reduceLeDiff, Int.reduceAdd, Int.reduceSub, Int.reduceNeg, Int.reduceLT, Int.reduceLE, Int.reduceEq, Int.reduceToNat, Nat.reduceMod, Kd, Ks]
      rw [hx, dualL]
      simp (disch := omega) only [go_sem, bne_self_eq_false, beq_self_eq_true, true_and, and_true, decide_true, decide_false, wrap_i64, ↓reduceIte, Nat.reduceAdd, Nat.reduceSub, Nat.reduceMul, Nat.reduceEqDiff, Nat.reduceLeDiff, Int.reduceAdd, Int.reduceSub, Int.reduceNeg, Int.reduceLT, Int.reduceLE, Int.reduceEq, Int.reduceToNat, Nat.reduceMod, encG_mk]
      exact Kap _ _ _
theorem dual_calls (Γ : Nat → Option (List AV)) (g : Gt) (h : AH) (hs : Sh g) (hr : rightF g = true) (hl : allLeaves g ≤ 60) :
    ACalls Try.prog Γ 11 [encG g] h fun v h' => h' = h ∧ v = .tuple [encG (dualF g).1, .bool (dualF g).2] := dual_calls_k Γ _ g h (Nat.lt_succ_self _) hs hr hl

/-! ### What holds of the dual formula -/
theorem dualL_ok : ∀ (m : Int) (l acc : List Gt), (dualL m l acc).2 = true → (∀ x ∈ l, (dualF x).2 = true) ∧ (dualL m l acc).1 = .mk (-1) m (acc ++ l.map fun x => (dualF x).1)
  | m, [], acc, _ => ⟨by simp, by simp [dualL]⟩
  | m, x :: r, acc, h => by
    rw [dualL] at h ⊢
    by_cases hx : (dualF x).2 = true
    · rw [if_pos hx] at h ⊢
      obtain ⟨h1, h2⟩ := dualL_ok m r _ h
      refine ⟨fun y hy => ?_, by rw [h2]; simp⟩
      rcases List.mem_cons.1 hy with rfl | hy
      · exact hx
      · exact h1 y hy
    · rw [if_neg hx] at h
      cases h
theorem dualF_gate {p n : Int} {l : List Gt} (hp : ¬ 0 ≤ p) (h : (dualF (.mk p n l)).2 = true) :
    n ≤ l.length ∧ (∀ x ∈ l, (dualF x).2 = true) ∧ (dualF (.mk p n l)).1 = .mk (-1) (l.length - n + 1) (l.map fun x => (dualF x).1) := by
  rw [dualF, if_neg hp] at h ⊢
  by_cases hn : (l.length : Int) < n
  · rw [if_pos hn] at h; cases h
  · rw [if_neg hn] at h ⊢
    obtain ⟨h1, h2⟩ := dualL_ok _ _ _ h
    exact ⟨by omega, h1, by simpa using h2⟩
theorem dualF_leaf {p n : Int} {l : List Gt} (hp : 0 ≤ p) : dualF (.mk p n l) = (.mk p n l, true) := by rw [dualF, if_pos hp]

mutual
theorem dual_keeps : ∀ g : Gt, rightF g = true → allLeaves g ≤ 60 → (dualF g).2 = true →
    rightF (dualF g).1 = true ∧ allLeaves (dualF g).1 = allLeaves g ∧ (∀ d, deeperF d (dualF g).1 = deeperF d g) ∧ (Sh g → Sh (dualF g).1) ∧
      ∀ W V : Int → Bool, (∀ q, inG q g = true → V q = !W q) → holdsF V (dualF g).1 = !holdsF W g
  | .mk p n l, hr, hl, hd => by
    by_cases hp : 0 ≤ p
    · rw [dualF_leaf hp]
      refine ⟨hr, rfl, fun _ => rfl, id, fun W V h => ?_⟩
      rw [holdsF, holdsF, if_pos hp, if_pos hp]
      exact h p (by simp [inG, hp])
    · obtain ⟨h1, h2, h3⟩ := dualF_gate hp hd
      obtain ⟨k1, k2, k3, k4⟩ := (right_mk hp).1 hr
      have hlen : l.length ≤ 60 := by
        have := len_leaves l
        rw [allLeaves_mk] at hl
        split at hl
        · subst l; simp
        · omega
      have hlx : ∀ x ∈ l, allLeaves x ≤ 60 := fun x hx => by
        have := allLeavesL_mem hx
        rw [allLeaves_mk] at hl
        split at hl
        · subst l; cases hx
        · omega
      obtain ⟨m1, m2, m3, m4, m5⟩ := dualL_keeps l k4 hlx h2
      rw [h3]
      refine ⟨(right_mk (by omega)).2 ⟨rfl, by omega, by omega, fun x hx => ?_⟩, ?_, fun d => ?_, fun hs => ?_, fun W V h => ?_⟩
      · obtain ⟨y, hy, rfl⟩ := List.mem_map.1 hx
        exact m1 y hy
      · rw [allLeaves_mk, allLeaves_mk, m2]
        cases l <;> simp
      · cases d with
        | zero => rfl
        | succ d =>
          simp only [deeperF, Gt.l, List.any_map]
          rw [Bool.eq_iff_iff, List.any_eq_true, List.any_eq_true]
          constructor
          · rintro ⟨x, hx, h⟩; exact ⟨x, hx, by rw [← m3 x hx d]; exact h⟩
          · rintro ⟨x, hx, h⟩; exact ⟨x, hx, by simp only [Function.comp]; rw [m3 x hx d]; exact h⟩
      · refine .mk (by simpa using (show l.length ≤ 9223372036854775807 by omega)) (fun x hx => ?_) (by omega) (by omega) (by omega) (by omega)
        obtain ⟨y, hy, rfl⟩ := List.mem_map.1 hx
        exact m4 y hy (hs.mem y hy)
      · rw [holdsF_gate _ (by omega) (by omega), holdsF_gate _ hp k2]
        have := m5 W V (fun q hq => h q (by simp [inG, hq]))
        rw [Bool.eq_iff_iff]
        simp
        omega
theorem dualL_keeps : ∀ l : List Gt, (∀ x ∈ l, rightF x = true) → (∀ x ∈ l, allLeaves x ≤ 60) → (∀ x ∈ l, (dualF x).2 = true) →
    (∀ x ∈ l, rightF (dualF x).1 = true) ∧ allLeavesL (l.map fun x => (dualF x).1) = allLeavesL l ∧ (∀ x ∈ l, ∀ d, deeperF d (dualF x).1 = deeperF d x) ∧ (∀ x ∈ l, Sh x → Sh (dualF x).1) ∧
      ∀ W V : Int → Bool, (∀ q, inL q l = true → V q = !W q) → ((l.map fun x => (dualF x).1).filter (holdsF V)).length + (l.filter (holdsF W)).length = l.length
  | [], _, _, _ => by simp [allLeavesL]
  | x :: r, h1, h2, h3 => by
    obtain ⟨a1, a2, a3, a4, a5⟩ := dual_keeps x (h1 x (List.mem_cons_self ..)) (h2 x (List.mem_cons_self ..)) (h3 x (List.mem_cons_self ..))
    obtain ⟨b1, b2, b3, b4, b5⟩ := dualL_keeps r (fun y hy => h1 y (List.mem_cons_of_mem _ hy)) (fun y hy => h2 y (List.mem_cons_of_mem _ hy)) (fun y hy => h3 y (List.mem_cons_of_mem _ hy))
    refine ⟨fun y hy => ?_, by rw [List.map_cons, allLeavesL, allLeavesL, a2, b2], fun y hy => ?_, fun y hy => ?_, fun W V h => ?_⟩
    · rcases List.mem_cons.1 hy with rfl | hy
      · exact a1
      · exact b1 y hy
    · rcases List.mem_cons.1 hy with rfl | hy
      · exact a3
      · exact b3 y hy
    · rcases List.mem_cons.1 hy with rfl | hy
      · exact a4
      · exact b4 y hy
    · have c1 := a5 W V (fun q hq => h q (by simp [inL, hq]))
      have c2 := b5 W V (fun q hq => h q (by simp [inL, hq]))
      rw [List.map_cons, List.filter_cons, List.filter_cons, c1]
      cases holdsF W x <;> simp <;> omega
end

theorem bits_not (a : Nat) (ha : a < 18446744073709551616) : bitsOp .xor .u64 18446744073709551615 (a : Int) = ((18446744073709551615 ^^^ a : Nat) : Int) ∧ 18446744073709551615 ^^^ a < 18446744073709551616 := by
  have h : 18446744073709551615 ^^^ a < 2 ^ 64 := Nat.xor_lt_two_pow (by omega) ha
  refine ⟨?_, h⟩
  show IntKind.u64.wrap ((BitVec.ofInt 64 ((18446744073709551615 : Nat) : Int) ^^^ BitVec.ofInt 64 (a : Int)).toNat : Int) = _
  rw [BitVec.toNat_xor, BitVec.ofInt_natCast, BitVec.ofInt_natCast, BitVec.toNat_ofNat, BitVec.toNat_ofNat, Nat.mod_eq_of_lt ha, Nat.mod_eq_of_lt (by omega)]
  generalize 18446744073709551615 ^^^ a = c at h
  exact IntWalk.u64_in _ ⟨by omega, by omega⟩
mutual
theorem inG_lt : ∀ (g : Gt) (q : Int), rightF g = true → inG q g = true → q < 64
  | .mk p n l, q, hr, h => by
    rw [inG, Bool.or_eq_true, decide_eq_true_eq] at h
    by_cases hp : 0 ≤ p
    · simp [rightF, hp] at hr
      rcases h with h | h
      · omega
      · rw [hr.2] at h; simp [inL] at h
    · rcases h with h | h
      · omega
      · exact inL_lt l q ((right_mk hp).1 hr).2.2.2 h
theorem inL_lt : ∀ (l : List Gt) (q : Int), (∀ x ∈ l, rightF x = true) → inL q l = true → q < 64
  | [], q, _, h => by simp [inL] at h
  | x :: r, q, hr, h => by
    rw [inL, Bool.or_eq_true] at h
    rcases h with h | h
    · exact inG_lt x q (hr x (List.mem_cons_self ..)) h
    · exact inL_lt r q (fun y hy => hr y (List.mem_cons_of_mem _ hy)) h
end
theorem not_there (a : Nat) (g : Gt) (hr : rightF g = true) (p : Int) (h : inG p g = true) : WB ((18446744073709551615 ^^^ a : Nat) : Int) p = !WB (a : Int) p := by
  have h1 := inG_nn g p h
  have h2 := inG_lt g p hr h
  rw [WB_nat, WB_nat, Nat.testBit_xor]
  have : (18446744073709551615 : Nat).testBit p.toNat = true := by
    rw [show 18446744073709551615 = 2 ^ 64 - 1 by rfl, Nat.testBit_two_pow_sub_one]
    simp; omega
  rw [this]
  simp [h1, h2]

theorem duallaw_calls (Γ : Nat → Option (List AV)) (g : Gt) (a : Nat) (h : AH) (hs : Sh g) (ha : a < 18446744073709551616) :
    ACalls Try.prog Γ 4 [encG g, .int .u64 a] h fun v h' => h' = h ∧ v = .bool true := by
  refine ACalls.drop ?_
  have hnot := bits_not a ha
  refine acalls_code (rs := [.tmp 4]) Try.func4 rfl rfl rfl rfl Ty.mixed rfl ?_
  simp (disch := omega) only [go_sem, bne_self_eq_false, beq_self_eq_true, true_and, and_true, decide_true, decide_false, wrap_i64, ↓reduceIte, Nat.reduceAdd, Nat.reduceSub, Nat.reduceMul, Nat.reduceEqDiff, Nat.reduceLeDiff, Int.reduceAdd, Int.reduceSub, Int.reduceNeg, Int.reduceLT, Int.reduceLE, Int.reduceEq, Int.reduceToNat, Nat.reduceMod]
  refine ACalls.det (sane_calls Γ _) ?_
  simp (disch := omega) only [go_sem, bne_self_eq_false, beq_self_eq_true, true_and, and_true, decide_true, decide_false, wrap_i64, ↓reduceIte, Nat.reduceAdd, Nat.reduceSub, Nat.reduceMul, Nat.reduceEqDiff, Nat.reduceLeDiff, Int.reduceAdd, Int.reduceSub, Int.reduceNeg, Int.reduceLT, Int.reduceLE, Int.reduceEq, Int.reduceToNat, Nat.reduceMod]
  refine ACalls.det (small_calls Γ _ _ hs) ?_
  simp (disch := omega) only [go_sem, bne_self_eq_false, beq_self_eq_true, true_and, and_true, decide_true, decide_false, wrap_i64, ↓reduceIte, Nat.reduceAdd, Nat.reduceSub, Nat.reduceMul, Nat.reduceEqDiff, Nat.reduceLeDiff, Int.reduceAdd, Int.reduceSub, Int.reduceNeg, Int.reduceLT, Int.reduceLE, Int.reduceEq, Int.reduceToNat, Nat.reduceMod]
  refine aBr.intro (fun hsm => ?_) (fun hsm => ?_) <;> simp (disch := omega) only [go_sem, bne_self_eq_false, beq_self_eq_true, true_and, and_true, decide_true, decide_false, wrap_i64, ↓reduceIte, Nat.reduceAdd, Nat.reduceSub, Nat.reduceMul, Nat.reduceEqDiff, Nat.reduceLeDiff, Int.reduceAdd, Int.reduceSub, Int.reduceNeg, Int.reduceLT, Int.reduceLE, Int.reduceEq, Int.reduceToNat, Nat.reduceMod]
  obtain ⟨hck, hlv⟩ := smallF_of hsm
  have hrt := ((check0 _).1 hck).2.2
  refine ACalls.det (dual_calls Γ g _ hs hrt hlv) ?_
  simp (disch := omega) only [go_sem, bne_self_eq_false, beq_self_eq_true, true_and, and_true, decide_true, decide_false, wrap_i64, ↓reduceIte, Nat.reduceAdd, Nat.reduceSub, Nat.reduceMul, Nat.reduceEqDiff, Nat.reduceLeDiff, Int.reduceAdd, Int.reduceSub, Int.reduceNeg, Int.reduceLT, Int.reduceLE, Int.reduceEq, Int.reduceToNat, Nat.reduceMod]
  refine aBr.intro (fun hd => ?_) (fun hd => ?_) <;> simp (disch := omega) only [go_sem, bne_self_eq_false, beq_self_eq_true, true_and, and_true, decide_true, decide_false, wrap_i64, ↓reduceIte, Nat.reduceAdd, Nat.reduceSub, Nat.reduceMul, Nat.reduceEqDiff, Nat.reduceLeDiff, Int.reduceAdd, Int.reduceSub, Int.reduceNeg, Int.reduceLT, Int.reduceLE, Int.reduceEq, Int.reduceToNat, Nat.reduceMod]
  obtain ⟨k1, k2, k3, k4, k5⟩ := dual_keeps g hrt hlv hd
  have hckd : checkF (dualF g).1 = 0 := (check0 _).2 ⟨by rw [k3]; exact ((check0 _).1 hck).1, by omega, k1⟩
  refine aCallF.intro (people_calls Γ a _ (by omega)) ?_
  rw [encP_I]
  simp (disch := omega) only [go_sem, bne_self_eq_false, beq_self_eq_true, true_and, and_true, decide_true, decide_false, wrap_i64, ↓reduceIte, Nat.reduceAdd, Nat.reduceSub, Nat.reduceMul, Nat.reduceEqDiff, Nat.reduceLeDiff, Int.reduceAdd, Int.reduceSub, Int.reduceNeg, Int.reduceLT, Int.reduceLE, Int.reduceEq, Int.reduceToNat, Nat.reduceMod]
  refine aCallF.intro (Holds_calls Γ _ (pplI a) _ hs (len_ppl _)) ?_
  rw [holdsR_ppl hck]
  simp (disch := omega) only [go_sem, bne_self_eq_false, beq_self_eq_true, true_and, and_true, decide_true, decide_false, wrap_i64, ↓reduceIte, Nat.reduceAdd, Nat.reduceSub, Nat.reduceMul, Nat.reduceEqDiff, Nat.reduceLeDiff, Int.reduceAdd, Int.reduceSub, Int.reduceNeg, Int.reduceLT, Int.reduceLE, Int.reduceEq, Int.reduceToNat, Nat.reduceMod, encR]
  simp only [show (if IntKind.u64.signed = true then (-1 : Int) else IntKind.u64.max) = 18446744073709551615 from rfl, hnot.1]
  refine aCallF.intro (people_calls Γ ((18446744073709551615 ^^^ a : Nat) : Int) _ (by omega)) ?_
  rw [encP_I]
  simp (disch := omega) only [go_sem, bne_self_eq_false, beq_self_eq_true, true_and, and_true, decide_true, decide_false, wrap_i64, ↓reduceIte, Nat.reduceAdd, Nat.reduceSub, Nat.reduceMul, Nat.reduceEqDiff, Nat.reduceLeDiff, Int.reduceAdd, Int.reduceSub, Int.reduceNeg, Int.reduceLT, Int.reduceLE, Int.reduceEq, Int.reduceToNat, Nat.reduceMod]
  refine aCallF.intro (Holds_calls Γ _ (pplI ((18446744073709551615 ^^^ a : Nat) : Int)) _ (k4 hs) (len_ppl _)) ?_
  rw [holdsR_ppl hckd, k5 (WB (a : Int)) _ (fun q hq => not_there a g hrt q hq)]
  simp (disch := omega) only [go_sem, bne_self_eq_false, beq_self_eq_true, true_and, and_true, decide_true, decide_false, wrap_i64, ↓reduceIte, Nat.reduceAdd, Nat.reduceSub, Nat.reduceMul, Nat.reduceEqDiff, Nat.reduceLeDiff, Int.reduceAdd, Int.reduceSub, Int.reduceNeg, Int.reduceLT, Int.reduceLE, Int.reduceEq, Int.reduceToNat, Nat.reduceMod, encR]
  generalize holdsF (WB (a : Int)) g = q
  have hq : (q == !q) = false := by cases q <;> rfl
  simp (disch := omega) only [go_sem, bne_self_eq_false, beq_self_eq_true, true_and, and_true, decide_true, decide_false, wrap_i64, ↓reduceIte, Nat.reduceAdd, Nat.reduceSub, Nat.reduceMul, Nat.reduceEqDiff, Nat.reduceLeDiff, Int.reduceAdd, Int.reduceSub, Int.reduceNeg, Int.reduceLT, Int.reduceLE, Int.reduceEq, Int.reduceToNat, Nat.reduceMod, hq]
  refine ACalls.det (check_calls Γ _ _ (k4 hs)) ?_
  rw [hckd]
  simp (disch := omega) only [go_sem, bne_self_eq_false, beq_self_eq_true, true_and, and_true, decide_true, decide_false, wrap_i64, ↓reduceIte, Nat.reduceAdd, Nat.reduceSub, Nat.reduceMul, Nat.reduceEqDiff, Nat.reduceLeDiff, Int.reduceAdd, Int.reduceSub, Int.reduceNeg, Int.reduceLT, Int.reduceLE, Int.reduceEq, Int.reduceToNat, Nat.reduceMod]
end Go.Proofs.Ytkcpnmphlanocaa
