/- The reference's lists of people: gathered, put in order, without others. No conditions. -/
import Derived.Test.YtopiamdfnaejeaaRefB
set_option linter.unusedSimpArgs false
set_option linter.unusedVariables false
namespace Go.Proofs.Ytopiamdfnaejeaa
open Go Go.Proofs Go.Abs

mutual
theorem rholds_eq (W : Int → Bool) : ∀ g : Gt, rightF g = true → rholdsF W g = holdsF W g
  | .mk p n l, h => by
    by_cases hp : 0 ≤ p
    · simp [rholdsF, holdsF, hp]
    · simp only [rightF, if_neg hp, Bool.and_eq_true, decide_eq_true_eq] at h
      simp only [rholdsF, holdsF, if_neg hp]
      exact rcnt_eq W l n h.1.1.2 h.2
theorem rcnt_eq (W : Int → Bool) : ∀ (l : List Gt) (n : Int), 1 ≤ n → rightL l = true → decide (n ≤ (rcnt W l : Int)) = cntF W l n
  | [], n, hn, _ => by rw [rcnt, cntF]; exact decide_eq_false (by simp; omega)
  | x :: r, n, hn, h => by
    simp only [rightL, Bool.and_eq_true] at h
    have h1 := rholds_eq W x h.1
    simp only [rcnt, cntF, h1]
    cases holdsF W x with
    | false => simpa using rcnt_eq W r n hn h.2
    | true =>
      simp only [if_true]
      by_cases h2 : n - 1 = 0
      · rw [if_pos h2]; simp; omega
      · rw [if_neg h2, ← rcnt_eq W r (n - 1) (by omega) h.2]
        simp only [decide_eq_decide]; omega
end
set_option maxRecDepth 100000 in
theorem rHolds_calls (Γ : Nat → Option (List AV)) (g : Gt) (who : List Int) (h : AH) (hs : Sh g) (hw : who.length ≤ 9223372036854775807) :
    ACalls Try.prog Γ 83 [encG g, .sl (encI who) .free] h fun v h' => h' = h ∧ v = encR (holdsR g who) := by
  refine ACalls.drop ?_
  refine acalls_code (rs := [.tmp 4, .tmp 5]) Try.func83 rfl rfl rfl rfl Ty.mixed (by kernel_rfl) ?_
  simp (disch := omega) only [go_sem, bne_self_eq_false, beq_self_eq_true, true_and, and_true, decide_true, decide_false, wrap_i64, ↓reduceIte, Nat.reduceAdd, Nat.reduceSub, Nat.reduceMul, Nat.reduceEqDiff, Nat.reduceLeDiff, Int.reduceAdd, Int.reduceSub, Int.reduceNeg, Int.reduceLT, Int.reduceLE, Int.reduceEq, Int.reduceToNat, Nat.reduceMod]
  refine ACalls.det (refcheck_calls Γ g _ hs) ?_
  simp (disch := omega) only [go_sem, bne_self_eq_false, beq_self_eq_true, true_and, and_true, decide_true, decide_false, wrap_i64, ↓reduceIte, Nat.reduceAdd, Nat.reduceSub, Nat.reduceMul, Nat.reduceEqDiff, Nat.reduceLeDiff, Int.reduceAdd, Int.reduceSub, Int.reduceNeg, Int.reduceLT, Int.reduceLE, Int.reduceEq, Int.reduceToNat, Nat.reduceMod]
  refine aIf.intro (fun h1 => ?_) (fun h1 => ?_) <;> simp (disch := omega) only [go_sem, bne_self_eq_false, beq_self_eq_true, true_and, and_true, decide_true, decide_false, wrap_i64, ↓reduceIte, Nat.reduceAdd, Nat.reduceSub, Nat.reduceMul, Nat.reduceEqDiff, Nat.reduceLeDiff, Int.reduceAdd, Int.reduceSub, Int.reduceNeg, Int.reduceLT, Int.reduceLE, Int.reduceEq, Int.reduceToNat, Nat.reduceMod]
  rotate_left
  · simp [holdsR, h1, encR]
  have hg := checkF_right h1
  refine ACalls.det (people_calls Γ who _ hw) ?_
  simp (disch := omega) only [go_sem, bne_self_eq_false, beq_self_eq_true, true_and, and_true, decide_true, decide_false, wrap_i64, ↓reduceIte, Nat.reduceAdd, Nat.reduceSub, Nat.reduceMul, Nat.reduceEqDiff, Nat.reduceLeDiff, Int.reduceAdd, Int.reduceSub, Int.reduceNeg, Int.reduceLT, Int.reduceLE, Int.reduceEq, Int.reduceToNat, Nat.reduceMod]
  refine aBr.intro (fun h2 => ?_) (fun h2 => ?_) <;> simp (disch := omega) only [go_sem, bne_self_eq_false, beq_self_eq_true, true_and, and_true, decide_true, decide_false, wrap_i64, ↓reduceIte, Nat.reduceAdd, Nat.reduceSub, Nat.reduceMul, Nat.reduceEqDiff, Nat.reduceLeDiff, Int.reduceAdd, Int.reduceSub, Int.reduceNeg, Int.reduceLT, Int.reduceLE, Int.reduceEq, Int.reduceToNat, Nat.reduceMod]
  rotate_left
  · simp at h2; simp [holdsR, h1, h2, encR]
  refine ACalls.det (rholds_calls Γ who g _ hw hs) ?_
  simp (disch := omega) only [go_sem, bne_self_eq_false, beq_self_eq_true, true_and, and_true, decide_true, decide_false, wrap_i64, ↓reduceIte, Nat.reduceAdd, Nat.reduceSub, Nat.reduceMul, Nat.reduceEqDiff, Nat.reduceLeDiff, Int.reduceAdd, Int.reduceSub, Int.reduceNeg, Int.reduceLT, Int.reduceLE, Int.reduceEq, Int.reduceToNat, Nat.reduceMod]
  simp [holdsR, h1, h2, encR, rholds_eq _ g hg]
def permF (g : Gt) (who : List Int) : Bool := (holdsR g who).1
set_option maxRecDepth 100000 in
theorem permits_calls (Γ : Nat → Option (List AV)) (g : Gt) (who : List Int) (h : AH) (hs : Sh g) (hw : who.length ≤ 9223372036854775807) :
    ACalls Try.prog Γ 52 [encG g, .sl (encI who) .free] h fun v h' => h' = h ∧ v = .bool (permF g who) := by
  refine ACalls.drop ?_
  refine acalls_code (rs := [.tmp 4]) Try.func52 rfl rfl rfl rfl Ty.mixed (by kernel_rfl) ?_
  simp (disch := omega) only [go_sem, bne_self_eq_false, beq_self_eq_true, true_and, and_true, decide_true, decide_false, wrap_i64, ↓reduceIte, Nat.reduceAdd, Nat.reduceSub, Nat.reduceMul, Nat.reduceEqDiff, Nat.reduceLeDiff, Int.reduceAdd, Int.reduceSub, Int.reduceNeg, Int.reduceLT, Int.reduceLE, Int.reduceEq, Int.reduceToNat, Nat.reduceMod]
  refine ACalls.det (rHolds_calls Γ g who _ hs hw) ?_
  simp (disch := omega) only [go_sem, bne_self_eq_false, beq_self_eq_true, true_and, and_true, decide_true, decide_false, wrap_i64, ↓reduceIte, Nat.reduceAdd, Nat.reduceSub, Nat.reduceMul, Nat.reduceEqDiff, Nat.reduceLeDiff, Int.reduceAdd, Int.reduceSub, Int.reduceNeg, Int.reduceLT, Int.reduceLE, Int.reduceEq, Int.reduceToNat, Nat.reduceMod, encR]
  rfl
/-! ### put, gather -/
def putF (n : Int) : List Int → List Int
  | [] => [n]
  | y :: r => if y < n then y :: putF n r else if y = n then y :: r else n :: y :: r
theorem putF_len (n : Int) (l : List Int) : (putF n l).length ≤ l.length + 1 := by
  induction l with
  | nil => simp [putF]
  | cons y r ih => simp only [putF]; split <;> (try split) <;> simp <;> omega
theorem putF_at (n : Int) : ∀ (a b : List Int), (∀ x ∈ a, x < n) → putF n (a ++ b) = a ++ putF n b
  | [], b, _ => rfl
  | x :: a, b, h => by simp only [List.cons_append, putF, if_pos (h x (by simp))]; rw [putF_at n a b fun y hy => h y (by simp [hy])]
theorem encI_take (l : List Int) (k : Nat) : (encI l).take k = encI (l.take k) := by simp [encI]
theorem encI_drop (l : List Int) (k : Nat) : (encI l).drop k = encI (l.drop k) := by simp [encI]
theorem encI_app2 (l m : List Int) : encI l ++ encI m = encI (l ++ m) := (encI_app l m).symm
theorem encI_snoc (l : List Int) (x : Int) : encI l ++ [.int .i64 x] = encI (l ++ [x]) := by simp [encI]
set_option maxRecDepth 100000 in
theorem put_calls (Γ : Nat → Option (List AV)) (l : List Int) (n : Int) (h : AH) (hl : l.length ≤ 1000000) :
    ACalls Try.prog Γ 88 [.sl (encI l) .free, .int .i64 n] h fun v h' => h' = h ∧ v = .sl (encI (putF n l)) .free := by
  refine ACalls.dropL ?_
  refine acalls_code (rs := [.tmp 4]) Try.func88 rfl rfl rfl rfl Ty.mixed (by kernel_rfl) ?_
  simp (disch := omega) only [go_sem, bne_self_eq_false, beq_self_eq_true, true_and, and_true, decide_true, decide_false, wrap_i64, ↓reduceIte, Nat.reduceAdd, Nat.reduceSub, Nat.reduceMul, Nat.reduceEqDiff, Nat.reduceLeDiff, Int.reduceAdd, Int.reduceSub, Int.reduceNeg, Int.reduceLT, Int.reduceLE, Int.reduceEq, Int.reduceToNat, Nat.reduceMod]
  refine awp_loopS (α := List Int × List Int) [0, 1, 5] (fun s => [(0, .sl (encI l) .free), (1, .int .i64 n), (5, .int .i64 s.1.length)]) (fun _ => h) (fun s => l = s.1 ++ s.2 ∧ ∀ x ∈ s.1, x < n) (fun s => s.2.length) ([], l) ?_ rfl ⟨rfl, by simp⟩ Ty.mixed (by kernel_rfl) ?_
  · simp (disch := omega) only [go_sem, bne_self_eq_false, beq_self_eq_true, true_and, and_true, decide_true, decide_false, wrap_i64, ↓reduceIte, Nat.reduceAdd, Nat.reduceSub, Nat.reduceMul, Nat.reduceEqDiff, Nat.reduceLeDiff, Int.reduceAdd, Int.reduceSub, Int.reduceNeg, Int.reduceLT, Int.reduceLE, Int.reduceEq, Int.reduceToNat, Nat.reduceMod]
  rintro ⟨a, b⟩ ⟨rfl, ha⟩
  simp only at ha ⊢
  cases b with
  | nil =>
    have hl' : a.length ≤ 1000000 := by simpa using hl
    simp (disch := omega) only [go_sem, bne_self_eq_false, beq_self_eq_true, true_and, and_true, decide_true, decide_false, wrap_i64, ↓reduceIte, Nat.reduceAdd, Nat.reduceSub, Nat.reduceMul, Nat.reduceEqDiff, Nat.reduceLeDiff, Int.reduceAdd, Int.reduceSub, Int.reduceNeg, Int.reduceLT, Int.reduceLE, Int.reduceEq, Int.reduceToNat, Nat.reduceMod, encI_len, List.append_nil]
    refine AWP.keep [0, 1, 5] (aCode_ok Ty.mixed _ _ _ _ (by kernel_rfl) ?_)
    simp (disch := omega) only [go_sem, bne_self_eq_false, beq_self_eq_true, true_and, and_true, decide_true, decide_false, wrap_i64, ↓reduceIte, Nat.reduceAdd, Nat.reduceSub, Nat.reduceMul, Nat.reduceEqDiff, Nat.reduceLeDiff, Int.reduceAdd, Int.reduceSub, Int.reduceNeg, Int.reduceLT, Int.reduceLE, Int.reduceEq, Int.reduceToNat, Nat.reduceMod, encI_len]
    refine ⟨rowsOK_I _, by omega, ?_⟩
    rw [show (encI (a)).take a.length = encI a from by simp [encI_take]]
    refine aAp_full (rowsOK_I []) (rowsOK_I _) (by simp [encI_len]; omega) (by simp [encI_len]; omega) ?_
    simp (disch := omega) only [go_sem, bne_self_eq_false, beq_self_eq_true, true_and, and_true, decide_true, decide_false, wrap_i64, ↓reduceIte, Nat.reduceAdd, Nat.reduceSub, Nat.reduceMul, Nat.reduceEqDiff, Nat.reduceLeDiff, Int.reduceAdd, Int.reduceSub, Int.reduceNeg, Int.reduceLT, Int.reduceLE, Int.reduceEq, Int.reduceToNat, Nat.reduceMod, List.nil_append, encI_len]
    refine aAp_arena (by simp (disch := omega) only [go_sem, bne_self_eq_false, beq_self_eq_true, true_and, and_true, decide_true, decide_false, wrap_i64, ↓reduceIte, Nat.reduceAdd, Nat.reduceSub, Nat.reduceMul, Nat.reduceEqDiff, Nat.reduceLeDiff, Int.reduceAdd, Int.reduceSub, Int.reduceNeg, Int.reduceLT, Int.reduceLE, Int.reduceEq, Int.reduceToNat, Nat.reduceMod, List.length_nil, Nat.zero_add, encI_len]) (rowsOK_I _) (rowsOK_I [n]) (by simp [encI_len]; omega) (by simp [encI_len]; omega) ?_
    rw [encI_snoc]
    simp (disch := omega) only [go_sem, bne_self_eq_false, beq_self_eq_true, true_and, and_true, decide_true, decide_false, wrap_i64, ↓reduceIte, Nat.reduceAdd, Nat.reduceSub, Nat.reduceMul, Nat.reduceEqDiff, Nat.reduceLeDiff, Int.reduceAdd, Int.reduceSub, Int.reduceNeg, Int.reduceLT, Int.reduceLE, Int.reduceEq, Int.reduceToNat, Nat.reduceMod, encI_len]
    refine ⟨rowsOK_I _, by simp, ?_⟩
    rw [show (encI (a)).drop a.length = encI ([] : List Int) from by simp [encI_drop]]
    refine aAp_arena (by simp (disch := omega) only [go_sem, bne_self_eq_false, beq_self_eq_true, true_and, and_true, decide_true, decide_false, wrap_i64, ↓reduceIte, Nat.reduceAdd, Nat.reduceSub, Nat.reduceMul, Nat.reduceEqDiff, Nat.reduceLeDiff, Int.reduceAdd, Int.reduceSub, Int.reduceNeg, Int.reduceLT, Int.reduceLE, Int.reduceEq, Int.reduceToNat, Nat.reduceMod, List.length_append, List.length_cons, List.length_nil, encI_len]) (rowsOK_I _) (rowsOK_I _) (by simp [encI_len]; omega) (by simp [encI_len]; omega) ?_
    rw [encI_app2]
    simp (disch := omega) only [go_sem, bne_self_eq_false, beq_self_eq_true, true_and, and_true, decide_true, decide_false, wrap_i64, ↓reduceIte, Nat.reduceAdd, Nat.reduceSub, Nat.reduceMul, Nat.reduceEqDiff, Nat.reduceLeDiff, Int.reduceAdd, Int.reduceSub, Int.reduceNeg, Int.reduceLT, Int.reduceLE, Int.reduceEq, Int.reduceToNat, Nat.reduceMod, encI_len]
    rw [show putF n a = putF n (a ++ []) from by simp, putF_at n a _ ha]
    simp [putF]
  | cons y b =>
    have hl' : a.length + 1 + b.length ≤ 1000000 := by simp at hl; omega
    have e1 : (encI (a ++ y :: b))[a.length]? = some (.int .i64 y) := by simp [encI]
    simp (disch := omega) only [go_sem, bne_self_eq_false, beq_self_eq_true, true_and, and_true, decide_true, decide_false, wrap_i64, ↓reduceIte, Nat.reduceAdd, Nat.reduceSub, Nat.reduceMul, Nat.reduceEqDiff, Nat.reduceLeDiff, Int.reduceAdd, Int.reduceSub, Int.reduceNeg, Int.reduceLT, Int.reduceLE, Int.reduceEq, Int.reduceToNat, Nat.reduceMod, encI_len, List.length_append, List.length_cons]
    refine aIf.pos (by omega) ?_
    simp (disch := omega) only [go_sem, bne_self_eq_false, beq_self_eq_true, true_and, and_true, decide_true, decide_false, wrap_i64, ↓reduceIte, Nat.reduceAdd, Nat.reduceSub, Nat.reduceMul, Nat.reduceEqDiff, Nat.reduceLeDiff, Int.reduceAdd, Int.reduceSub, Int.reduceNeg, Int.reduceLT, Int.reduceLE, Int.reduceEq, Int.reduceToNat, Nat.reduceMod, encI_len, List.length_append, List.length_cons, e1]
    refine aIf.intro (fun h1 => ?_) (fun h1 => ?_) <;> simp (disch := omega) only [go_sem, bne_self_eq_false, beq_self_eq_true, true_and, and_true, decide_true, decide_false, wrap_i64, ↓reduceIte, Nat.reduceAdd, Nat.reduceSub, Nat.reduceMul, Nat.reduceEqDiff, Nat.reduceLeDiff, Int.reduceAdd, Int.reduceSub, Int.reduceNeg, Int.reduceLT, Int.reduceLE, Int.reduceEq, Int.reduceToNat, Nat.reduceMod]
    · refine roundS_next (a ++ [y], b) (by simp) ⟨by simp, ?_⟩ ?_ rfl
      · intro x hx
        rcases List.mem_append.1 hx with hx | hx
        · exact ha x hx
        · simp at hx; omega
      · simp (disch := omega) only [go_sem, bne_self_eq_false, beq_self_eq_true, true_and, and_true, decide_true, decide_false, wrap_i64, ↓reduceIte, Nat.reduceAdd, Nat.reduceSub, Nat.reduceMul, Nat.reduceEqDiff, Nat.reduceLeDiff, Int.reduceAdd, Int.reduceSub, Int.reduceNeg, Int.reduceLT, Int.reduceLE, Int.reduceEq, Int.reduceToNat, Nat.reduceMod, List.length_append]
    · refine AWP.keep [0, 1, 5] (aCode_ok Ty.mixed _ _ _ _ (by kernel_rfl) ?_)
      simp (disch := omega) only [go_sem, bne_self_eq_false, beq_self_eq_true, true_and, and_true, decide_true, decide_false, wrap_i64, ↓reduceIte, Nat.reduceAdd, Nat.reduceSub, Nat.reduceMul, Nat.reduceEqDiff, Nat.reduceLeDiff, Int.reduceAdd, Int.reduceSub, Int.reduceNeg, Int.reduceLT, Int.reduceLE, Int.reduceEq, Int.reduceToNat, Nat.reduceMod, encI_len, List.length_append, List.length_cons]
      refine aIf.pos (by omega) ?_
      simp (disch := omega) only [go_sem, bne_self_eq_false, beq_self_eq_true, true_and, and_true, decide_true, decide_false, wrap_i64, ↓reduceIte, Nat.reduceAdd, Nat.reduceSub, Nat.reduceMul, Nat.reduceEqDiff, Nat.reduceLeDiff, Int.reduceAdd, Int.reduceSub, Int.reduceNeg, Int.reduceLT, Int.reduceLE, Int.reduceEq, Int.reduceToNat, Nat.reduceMod, encI_len, List.length_append, List.length_cons, e1]
      refine aIf.intro (fun h2 => ?_) (fun h2 => ?_) <;> simp (disch := omega) only [go_sem, bne_self_eq_false, beq_self_eq_true, true_and, and_true, decide_true, decide_false, wrap_i64, ↓reduceIte, Nat.reduceAdd, Nat.reduceSub, Nat.reduceMul, Nat.reduceEqDiff, Nat.reduceLeDiff, Int.reduceAdd, Int.reduceSub, Int.reduceNeg, Int.reduceLT, Int.reduceLE, Int.reduceEq, Int.reduceToNat, Nat.reduceMod]
      · rw [putF_at n a _ ha]; simp [putF, h1, h2]
      · refine ⟨rowsOK_I _, by simp [encI_len]; omega, ?_⟩
        rw [show (encI (a ++ y :: b)).take a.length = encI a from by simp [encI_take]]
        refine aAp_full (rowsOK_I []) (rowsOK_I _) (by simp [encI_len]; omega) (by simp [encI_len]; omega) ?_
        simp (disch := omega) only [go_sem, bne_self_eq_false, beq_self_eq_true, true_and, and_true, decide_true, decide_false, wrap_i64, ↓reduceIte, Nat.reduceAdd, Nat.reduceSub, Nat.reduceMul, Nat.reduceEqDiff, Nat.reduceLeDiff, Int.reduceAdd, Int.reduceSub, Int.reduceNeg, Int.reduceLT, Int.reduceLE, Int.reduceEq, Int.reduceToNat, Nat.reduceMod, List.nil_append, encI_len]
        refine aAp_arena (by simp (disch := omega) only [go_sem, bne_self_eq_false, beq_self_eq_true, true_and, and_true, decide_true, decide_false, wrap_i64, ↓reduceIte, Nat.reduceAdd, Nat.reduceSub, Nat.reduceMul, Nat.reduceEqDiff, Nat.reduceLeDiff, Int.reduceAdd, Int.reduceSub, Int.reduceNeg, Int.reduceLT, Int.reduceLE, Int.reduceEq, Int.reduceToNat, Nat.reduceMod, List.length_nil, Nat.zero_add, encI_len]) (rowsOK_I _) (rowsOK_I [n]) (by simp [encI_len]; omega) (by simp [encI_len]; omega) ?_
        rw [encI_snoc]
        simp (disch := omega) only [go_sem, bne_self_eq_false, beq_self_eq_true, true_and, and_true, decide_true, decide_false, wrap_i64, ↓reduceIte, Nat.reduceAdd, Nat.reduceSub, Nat.reduceMul, Nat.reduceEqDiff, Nat.reduceLeDiff, Int.reduceAdd, Int.reduceSub, Int.reduceNeg, Int.reduceLT, Int.reduceLE, Int.reduceEq, Int.reduceToNat, Nat.reduceMod, encI_len]
        refine ⟨rowsOK_I _, by simp; omega, ?_⟩
        rw [show (encI (a ++ y :: b)).drop a.length = encI (y :: b) from by simp [encI_drop]]
        refine aAp_arena (by simp (disch := omega) only [go_sem, bne_self_eq_false, beq_self_eq_true, true_and, and_true, decide_true, decide_false, wrap_i64, ↓reduceIte, Nat.reduceAdd, Nat.reduceSub, Nat.reduceMul, Nat.reduceEqDiff, Nat.reduceLeDiff, Int.reduceAdd, Int.reduceSub, Int.reduceNeg, Int.reduceLT, Int.reduceLE, Int.reduceEq, Int.reduceToNat, Nat.reduceMod, List.length_append, List.length_cons, List.length_nil, encI_len]) (rowsOK_I _) (rowsOK_I _) (by simp [encI_len]; omega) (by simp [encI_len]; omega) ?_
        rw [encI_app2]
        simp (disch := omega) only [go_sem, bne_self_eq_false, beq_self_eq_true, true_and, and_true, decide_true, decide_false, wrap_i64, ↓reduceIte, Nat.reduceAdd, Nat.reduceSub, Nat.reduceMul, Nat.reduceEqDiff, Nat.reduceLeDiff, Int.reduceAdd, Int.reduceSub, Int.reduceNeg, Int.reduceLT, Int.reduceLE, Int.reduceEq, Int.reduceToNat, Nat.reduceMod, encI_len]
        rw [putF_at n a _ ha]
        simp [putF, h1, h2]

mutual
def gathF : List Int → Gt → List Int
  | out, .mk p _ l => if 0 ≤ p then putF p out else gathL out l
def gathL : List Int → List Gt → List Int
  | out, [] => out
  | out, x :: r => gathL (gathF out x) r
end
theorem gathL_app : ∀ (a b : List Gt) (out : List Int), gathL out (a ++ b) = gathL (gathL out a) b
  | [], _, _ => rfl
  | x :: a, b, out => by simp only [List.cons_append, gathL]; exact gathL_app a b _
mutual
theorem gathF_len : ∀ (g : Gt) (out : List Int), ((gathF out g).length : Int) ≤ out.length + allLeaves g
  | .mk p n l, out => by
    have h1 := allLeaves_pos (.mk p n l)
    rw [gathF]
    split
    · have := putF_len p out; omega
    · have := gathL_len l out
      rw [allLeaves]
      split
      · rename_i he
        cases l with
        | nil => simp [gathL]; omega
        | cons x r => simp at he
      · exact this
theorem gathL_len : ∀ (l : List Gt) (out : List Int), ((gathL out l).length : Int) ≤ out.length + allLeavesL l
  | [], out => by simp [gathL, allLeavesL]
  | x :: r, out => by
    have h1 := gathF_len x out
    have h2 := gathL_len r (gathF out x)
    rw [gathL, allLeavesL]; omega
end
set_option maxRecDepth 100000 in
theorem gather_calls_k (Γ : Nat → Option (List AV)) : ∀ (k : Nat) (g : Gt) (out : List Int) (h : AH), SizeOf.sizeOf g < k → Sh g → (out.length : Int) + allLeaves g ≤ 1000000 →
    ACalls Try.prog Γ 59 [.sl (encI out) .free, encG g] h fun v h' => h' = h ∧ v = .sl (encI (gathF out g)) .free
  | 0, _, _, _, hk, _, _ => absurd hk (Nat.not_lt_zero _)
  | k + 1, .mk p n l, out, h, hsz, hs, hb => by
    refine ACalls.drop ?_
    have hp := allLeaves_pos (.mk p n l)
    refine acalls_code (rs := [.tmp 4]) Try.func59 rfl rfl rfl rfl Ty.mixed (by kernel_rfl) ?_
    simp only [encG_mk]
    simp (disch := omega) only [go_sem, bne_self_eq_false, beq_self_eq_true, true_and, and_true, decide_true, decide_false, wrap_i64, ↓reduceIte, Nat.reduceAdd, Nat.reduceSub, Nat.reduceMul, Nat.reduceEqDiff, Nat.reduceLeDiff, Int.reduceAdd, Int.reduceSub, Int.reduceNeg, Int.reduceLT, Int.reduceLE, Int.reduceEq, Int.reduceToNat, Nat.reduceMod]
    refine aIf.intro (fun h1 => ?_) (fun h1 => ?_) <;> simp (disch := omega) only [go_sem, bne_self_eq_false, beq_self_eq_true, true_and, and_true, decide_true, decide_false, wrap_i64, ↓reduceIte, Nat.reduceAdd, Nat.reduceSub, Nat.reduceMul, Nat.reduceEqDiff, Nat.reduceLeDiff, Int.reduceAdd, Int.reduceSub, Int.reduceNeg, Int.reduceLT, Int.reduceLE, Int.reduceEq, Int.reduceToNat, Nat.reduceMod]
    · refine ACalls.det (put_calls Γ out p _ (by omega)) ?_
      simp (disch := omega) only [go_sem, bne_self_eq_false, beq_self_eq_true, true_and, and_true, decide_true, decide_false, wrap_i64, ↓reduceIte, Nat.reduceAdd, Nat.reduceSub, Nat.reduceMul, Nat.reduceEqDiff, Nat.reduceLeDiff, Int.reduceAdd, Int.reduceSub, Int.reduceNeg, Int.reduceLT, Int.reduceLE, Int.reduceEq, Int.reduceToNat, Nat.reduceMod]
      simp [gathF, h1]
    have hl1 := hs.len
    have hl2 := hs.mem
    refine awp_loopL (β := Unit) l [3, 5, 6] (fun don _ => [(3, .ptr (some (h.length, 0))), (5, .sl (encI (gathL out don)) .free), (6, .int .i64 don.length)])
      (fun _ => h ++ [AObj.row [AV.int IntKind.i64 p, AV.int IntKind.i64 n, AV.sl (l.map encG) Own.free] 24]) (fun _ _ _ => True) () ?_ rfl trivial Ty.mixed (by kernel_rfl) ?_ ?_
    · simp (disch := omega) only [go_sem, bne_self_eq_false, beq_self_eq_true, true_and, and_true, decide_true, decide_false, wrap_i64, ↓reduceIte, Nat.reduceAdd, Nat.reduceSub, Nat.reduceMul, Nat.reduceEqDiff, Nat.reduceLeDiff, Int.reduceAdd, Int.reduceSub, Int.reduceNeg, Int.reduceLT, Int.reduceLE, Int.reduceEq, Int.reduceToNat, Nat.reduceMod]
      simp [gathL]
    · rintro don x r _ rfl _
      have hl3 := len_mid hl1
      simp (disch := omega) only [go_sem, bne_self_eq_false, beq_self_eq_true, true_and, and_true, decide_true, decide_false, wrap_i64, ↓reduceIte, Nat.reduceAdd, Nat.reduceSub, Nat.reduceMul, Nat.reduceEqDiff, Nat.reduceLeDiff, Int.reduceAdd, Int.reduceSub, Int.reduceNeg, Int.reduceLT, Int.reduceLE, Int.reduceEq, Int.reduceToNat, Nat.reduceMod, List.map_append, List.map_cons, List.length_append]
      refine aIf.pos (by omega) ?_
      simp (disch := omega) only [go_sem, bne_self_eq_false, beq_self_eq_true, true_and, and_true, decide_true, decide_false, wrap_i64, ↓reduceIte, Nat.reduceAdd, Nat.reduceSub, Nat.reduceMul, Nat.reduceEqDiff, Nat.reduceLeDiff, Int.reduceAdd, Int.reduceSub, Int.reduceNeg, Int.reduceLT, Int.reduceLE, Int.reduceEq, Int.reduceToNat, Nat.reduceMod]
      have e1 : allLeaves (.mk p n (don ++ x :: r)) = allLeavesL don + (allLeaves x + allLeavesL r) := by
        rw [allLeaves]
        split
        · rename_i he; simp at he
        · have : ∀ a b : List Gt, allLeavesL (a ++ b) = allLeavesL a + allLeavesL b := fun a b => by
            induction a with
            | nil => simp [allLeavesL]
            | cons y a ih => simp only [List.cons_append, allLeavesL, ih]; omega
          rw [this, allLeavesL]
      have e2 := gathL_len don out
      have e3 := allLeavesL_pos r
      refine ACalls.det (gather_calls_k Γ k x _ _ (mem_sz (by simp) hsz) (hl2 x (by simp)) (by omega)) ?_
      simp (disch := omega) only [go_sem, bne_self_eq_false, beq_self_eq_true, true_and, and_true, decide_true, decide_false, wrap_i64, ↓reduceIte, Nat.reduceAdd, Nat.reduceSub, Nat.reduceMul, Nat.reduceEqDiff, Nat.reduceLeDiff, Int.reduceAdd, Int.reduceSub, Int.reduceNeg, Int.reduceLT, Int.reduceLE, Int.reduceEq, Int.reduceToNat, Nat.reduceMod]
      refine roundL_next () trivial ?_ (by simp)
      simp (disch := omega) only [go_sem, bne_self_eq_false, beq_self_eq_true, true_and, and_true, decide_true, decide_false, wrap_i64, ↓reduceIte, Nat.reduceAdd, Nat.reduceSub, Nat.reduceMul, Nat.reduceEqDiff, Nat.reduceLeDiff, Int.reduceAdd, Int.reduceSub, Int.reduceNeg, Int.reduceLT, Int.reduceLE, Int.reduceEq, Int.reduceToNat, Nat.reduceMod, List.length_append]
      rw [gathL_app]; simp [gathL]
    · intro _ _
      simp (disch := omega) only [go_sem, bne_self_eq_false, beq_self_eq_true, true_and, and_true, decide_true, decide_false, wrap_i64, ↓reduceIte, Nat.reduceAdd, Nat.reduceSub, Nat.reduceMul, Nat.reduceEqDiff, Nat.reduceLeDiff, Int.reduceAdd, Int.reduceSub, Int.reduceNeg, Int.reduceLT, Int.reduceLE, Int.reduceEq, Int.reduceToNat, Nat.reduceMod, List.length_map]
      refine AWP.keep [5] (aCode_ok Ty.mixed _ _ _ _ (by kernel_rfl) ?_)
      simp (disch := omega) only [go_sem, bne_self_eq_false, beq_self_eq_true, true_and, and_true, decide_true, decide_false, wrap_i64, ↓reduceIte, Nat.reduceAdd, Nat.reduceSub, Nat.reduceMul, Nat.reduceEqDiff, Nat.reduceLeDiff, Int.reduceAdd, Int.reduceSub, Int.reduceNeg, Int.reduceLT, Int.reduceLE, Int.reduceEq, Int.reduceToNat, Nat.reduceMod]
      simp [gathF, h1]
def pplF (g : Gt) : List Int := gathF [] g
theorem pplF_len {g : Gt} (h : allLeaves g ≤ 1000) : (pplF g).length ≤ 1000 := by have := gathF_len g []; simp at this; unfold pplF; omega
set_option maxRecDepth 100000 in
theorem ppl_calls (Γ : Nat → Option (List AV)) (g : Gt) (h : AH) (hs : Sh g) (hb : allLeaves g ≤ 1000) :
    ACalls Try.prog Γ 25 [encG g] h fun v h' => h' = h ∧ v = .sl (encI (pplF g)) .free := by
  refine ACalls.drop ?_
  refine acalls_code (rs := [.tmp 2]) Try.func25 rfl rfl rfl rfl Ty.mixed (by kernel_rfl) ?_
  simp (disch := omega) only [go_sem, bne_self_eq_false, beq_self_eq_true, true_and, and_true, decide_true, decide_false, wrap_i64, ↓reduceIte, Nat.reduceAdd, Nat.reduceSub, Nat.reduceMul, Nat.reduceEqDiff, Nat.reduceLeDiff, Int.reduceAdd, Int.reduceSub, Int.reduceNeg, Int.reduceLT, Int.reduceLE, Int.reduceEq, Int.reduceToNat, Nat.reduceMod]
  refine ACalls.det (ACalls.ofLoose (gather_calls_k Γ _ g [] _ (Nat.lt_succ_self _) hs (by simp; omega)) (by simp (disch := omega) only [go_sem, bne_self_eq_false, beq_self_eq_true, true_and, and_true, decide_true, decide_false, wrap_i64, ↓reduceIte, Nat.reduceAdd, Nat.reduceSub, Nat.reduceMul, Nat.reduceEqDiff, Nat.reduceLeDiff, Int.reduceAdd, Int.reduceSub, Int.reduceNeg, Int.reduceLT, Int.reduceLE, Int.reduceEq, Int.reduceToNat, Nat.reduceMod, encI, List.map_nil])) ?_
  simp (disch := omega) only [go_sem, bne_self_eq_false, beq_self_eq_true, true_and, and_true, decide_true, decide_false, wrap_i64, ↓reduceIte, Nat.reduceAdd, Nat.reduceSub, Nat.reduceMul, Nat.reduceEqDiff, Nat.reduceLeDiff, Int.reduceAdd, Int.reduceSub, Int.reduceNeg, Int.reduceLT, Int.reduceLE, Int.reduceEq, Int.reduceToNat, Nat.reduceMod]
  rfl
def errF (g : Gt) : Int := if checkF g = 0 then (if 12 < ((pplF g).length : Int) then 2 else 0) else checkF g
theorem check_leaves {g : Gt} (h : checkF g = 0) : allLeaves g ≤ 256 := by
  unfold checkF at h
  split at h
  · omega
  · rename_i hc
    simp at hc
    have := leaves_all g 256 (by omega)
    omega
set_option maxRecDepth 100000 in
theorem err_calls (Γ : Nat → Option (List AV)) (g : Gt) (h : AH) (hs : Sh g) :
    ACalls Try.prog Γ 57 [encG g] h fun v h' => h' = h ∧ v = .int .i64 (errF g) := by
  refine ACalls.drop ?_
  refine acalls_code (rs := [.tmp 2]) Try.func57 rfl rfl rfl rfl Ty.mixed (by kernel_rfl) ?_
  simp (disch := omega) only [go_sem, bne_self_eq_false, beq_self_eq_true, true_and, and_true, decide_true, decide_false, wrap_i64, ↓reduceIte, Nat.reduceAdd, Nat.reduceSub, Nat.reduceMul, Nat.reduceEqDiff, Nat.reduceLeDiff, Int.reduceAdd, Int.reduceSub, Int.reduceNeg, Int.reduceLT, Int.reduceLE, Int.reduceEq, Int.reduceToNat, Nat.reduceMod]
  refine ACalls.det (refcheck_calls Γ g _ hs) ?_
  simp (disch := omega) only [go_sem, bne_self_eq_false, beq_self_eq_true, true_and, and_true, decide_true, decide_false, wrap_i64, ↓reduceIte, Nat.reduceAdd, Nat.reduceSub, Nat.reduceMul, Nat.reduceEqDiff, Nat.reduceLeDiff, Int.reduceAdd, Int.reduceSub, Int.reduceNeg, Int.reduceLT, Int.reduceLE, Int.reduceEq, Int.reduceToNat, Nat.reduceMod]
  refine aIf.intro (fun h1 => ?_) (fun h1 => ?_) <;> simp (disch := omega) only [go_sem, bne_self_eq_false, beq_self_eq_true, true_and, and_true, decide_true, decide_false, wrap_i64, ↓reduceIte, Nat.reduceAdd, Nat.reduceSub, Nat.reduceMul, Nat.reduceEqDiff, Nat.reduceLeDiff, Int.reduceAdd, Int.reduceSub, Int.reduceNeg, Int.reduceLT, Int.reduceLE, Int.reduceEq, Int.reduceToNat, Nat.reduceMod]
  rotate_left
  · simp [errF, h1]
  refine ACalls.det (ppl_calls Γ g _ hs (by have := check_leaves h1; omega)) ?_
  simp (disch := omega) only [go_sem, bne_self_eq_false, beq_self_eq_true, true_and, and_true, decide_true, decide_false, wrap_i64, ↓reduceIte, Nat.reduceAdd, Nat.reduceSub, Nat.reduceMul, Nat.reduceEqDiff, Nat.reduceLeDiff, Int.reduceAdd, Int.reduceSub, Int.reduceNeg, Int.reduceLT, Int.reduceLE, Int.reduceEq, Int.reduceToNat, Nat.reduceMod, encI_len]
  refine aIf.intro (fun h2 => ?_) (fun h2 => ?_) <;> simp (disch := omega) only [go_sem, bne_self_eq_false, beq_self_eq_true, true_and, and_true, decide_true, decide_false, wrap_i64, ↓reduceIte, Nat.reduceAdd, Nat.reduceSub, Nat.reduceMul, Nat.reduceEqDiff, Nat.reduceLeDiff, Int.reduceAdd, Int.reduceSub, Int.reduceNeg, Int.reduceLT, Int.reduceLE, Int.reduceEq, Int.reduceToNat, Nat.reduceMod]
  · simp [errF, h1, h2]
  · simp [errF, h1, h2]
end Go.Proofs.Ytopiamdfnaejeaa
