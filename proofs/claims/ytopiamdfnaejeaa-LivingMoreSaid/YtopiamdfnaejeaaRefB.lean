/- The reference's evaluation of formulas, and lists of people. No conditions. -/
import Derived.Test.YtopiamdfnaejeaaHol
set_option linter.unusedSimpArgs false
set_option linter.unusedVariables false
namespace Go.Proofs.Ytopiamdfnaejeaa
open Go Go.Proofs Go.Abs

theorem encI_map (l : List Int) : (l.map fun i => AV.int IntKind.i64 i) = encI l := rfl
theorem encI_get (l : List Int) (k : Nat) (h : k < l.length) : (encI l)[k]? = some (.int .i64 l[k]) := by simp [encI, h]
/-! ### Has, People -/
set_option maxRecDepth 100000 in
theorem has_calls (Γ : Nat → Option (List AV)) (l : List Int) (n : Int) (h : AH) (hl : l.length ≤ 9223372036854775807) :
    ACalls Try.prog Γ 60 [.sl (encI l) .free, .int .i64 n] h fun v h' => h' = h ∧ v = .bool (decide (n ∈ l)) := by
  refine ACalls.drop ?_
  refine acalls_code (rs := [.tmp 4]) Try.func60 rfl rfl rfl rfl Ty.mixed (by kernel_rfl) ?_
  simp (disch := omega) only [go_sem, bne_self_eq_false, beq_self_eq_true, true_and, and_true, decide_true, decide_false, wrap_i64, ↓reduceIte, Nat.reduceAdd, Nat.reduceSub, Nat.reduceMul, Nat.reduceEqDiff, Nat.reduceLeDiff, Int.reduceAdd, Int.reduceSub, Int.reduceNeg, Int.reduceLT, Int.reduceLE, Int.reduceEq, Int.reduceToNat, Nat.reduceMod]
  refine awp_loopL (β := Unit) l [0, 1, 5] (fun don _ => [(0, .sl (encI l) .free), (1, .int .i64 n), (5, .int .i64 don.length)])
    (fun _ => h) (fun don _ _ => n ∉ don) () ?_ rfl (by simp) Ty.mixed (by kernel_rfl) ?_ ?_
  · simp (disch := omega) only [go_sem, bne_self_eq_false, beq_self_eq_true, true_and, and_true, decide_true, decide_false, wrap_i64, ↓reduceIte, Nat.reduceAdd, Nat.reduceSub, Nat.reduceMul, Nat.reduceEqDiff, Nat.reduceLeDiff, Int.reduceAdd, Int.reduceSub, Int.reduceNeg, Int.reduceLT, Int.reduceLE, Int.reduceEq, Int.reduceToNat, Nat.reduceMod]
  · rintro don x r _ rfl hn
    have hl3 := len_mid hl
    simp (disch := omega) only [go_sem, bne_self_eq_false, beq_self_eq_true, true_and, and_true, decide_true, decide_false, wrap_i64, ↓reduceIte, Nat.reduceAdd, Nat.reduceSub, Nat.reduceMul, Nat.reduceEqDiff, Nat.reduceLeDiff, Int.reduceAdd, Int.reduceSub, Int.reduceNeg, Int.reduceLT, Int.reduceLE, Int.reduceEq, Int.reduceToNat, Nat.reduceMod, encI, List.length_map, List.map_append, List.map_cons, List.length_append]
    refine aIf.pos (by omega) ?_
    simp (disch := omega) only [go_sem, bne_self_eq_false, beq_self_eq_true, true_and, and_true, decide_true, decide_false, wrap_i64, ↓reduceIte, Nat.reduceAdd, Nat.reduceSub, Nat.reduceMul, Nat.reduceEqDiff, Nat.reduceLeDiff, Int.reduceAdd, Int.reduceSub, Int.reduceNeg, Int.reduceLT, Int.reduceLE, Int.reduceEq, Int.reduceToNat, Nat.reduceMod, encI, List.length_map, List.map_append, List.map_cons, List.length_append]
    refine aIf.intro (fun h1 => ?_) (fun h1 => ?_) <;> simp (disch := omega) only [go_sem, bne_self_eq_false, beq_self_eq_true, true_and, and_true, decide_true, decide_false, wrap_i64, ↓reduceIte, Nat.reduceAdd, Nat.reduceSub, Nat.reduceMul, Nat.reduceEqDiff, Nat.reduceLeDiff, Int.reduceAdd, Int.reduceSub, Int.reduceNeg, Int.reduceLT, Int.reduceLE, Int.reduceEq, Int.reduceToNat, Nat.reduceMod]
    · simp [h1]
    · refine roundL_next () ?_ ?_ rfl
      · simp [hn]; omega
      · simp (disch := omega) only [go_sem, bne_self_eq_false, beq_self_eq_true, true_and, and_true, decide_true, decide_false, wrap_i64, ↓reduceIte, Nat.reduceAdd, Nat.reduceSub, Nat.reduceMul, Nat.reduceEqDiff, Nat.reduceLeDiff, Int.reduceAdd, Int.reduceSub, Int.reduceNeg, Int.reduceLT, Int.reduceLE, Int.reduceEq, Int.reduceToNat, Nat.reduceMod, List.length_append, encI, List.map_append, List.map_cons]
  · rintro _ hn
    simp (disch := omega) only [go_sem, bne_self_eq_false, beq_self_eq_true, true_and, and_true, decide_true, decide_false, wrap_i64, ↓reduceIte, Nat.reduceAdd, Nat.reduceSub, Nat.reduceMul, Nat.reduceEqDiff, Nat.reduceLeDiff, Int.reduceAdd, Int.reduceSub, Int.reduceNeg, Int.reduceLT, Int.reduceLE, Int.reduceEq, Int.reduceToNat, Nat.reduceMod, encI, List.length_map]
    refine AWP.keep [] (aCode_ok Ty.mixed _ _ _ _ (by kernel_rfl) ?_)
    simp (disch := omega) only [go_sem, bne_self_eq_false, beq_self_eq_true, true_and, and_true, decide_true, decide_false, wrap_i64, ↓reduceIte, Nat.reduceAdd, Nat.reduceSub, Nat.reduceMul, Nat.reduceEqDiff, Nat.reduceLeDiff, Int.reduceAdd, Int.reduceSub, Int.reduceNeg, Int.reduceLT, Int.reduceLE, Int.reduceEq, Int.reduceToNat, Nat.reduceMod]
    simp [hn]
/-! A list of people, in order. -/
theorem lastOf_app (l : List Int) (x : Int) : lastOf (l ++ [x]) = x := by
  have : (l ++ [x]).getLastD (-1) = x := by rw [List.getLastD_eq_getLast?, List.getLast?_append]; simp
  cases l with
  | nil => rfl
  | cons a l => exact this
theorem ascF_cons (p x : Int) (r : List Int) (h1 : p < x) (h2 : x < 64) : ascF p (x :: r) = ascF x r := by simp [ascF, h1, h2]
theorem ascF_not (p x : Int) (r : List Int) (h : ¬ p < x ∨ ¬ x < 64) : ascF p (x :: r) = false := by
  simp only [ascF]
  rcases h with h | h <;> simp [h]
set_option maxRecDepth 100000 in
theorem people_calls (Γ : Nat → Option (List AV)) (l : List Int) (h : AH) (hl : l.length ≤ 9223372036854775807) :
    ACalls Try.prog Γ 58 [.sl (encI l) .free] h fun v h' => h' = h ∧ v = .bool (ascF (-1) l) := by
  refine ACalls.drop ?_
  refine acalls_code (rs := [.tmp 2]) Try.func58 rfl rfl rfl rfl Ty.mixed (by kernel_rfl) ?_
  simp (disch := omega) only [go_sem, bne_self_eq_false, beq_self_eq_true, true_and, and_true, decide_true, decide_false, wrap_i64, ↓reduceIte, Nat.reduceAdd, Nat.reduceSub, Nat.reduceMul, Nat.reduceEqDiff, Nat.reduceLeDiff, Int.reduceAdd, Int.reduceSub, Int.reduceNeg, Int.reduceLT, Int.reduceLE, Int.reduceEq, Int.reduceToNat, Nat.reduceMod]
  refine awp_loopL (β := Unit) l [0, 3] (fun don _ => [(0, .sl (encI l) .free), (3, .int .i64 don.length)])
    (fun _ => h) (fun don r _ => ascF (-1) l = ascF (lastOf don) r ∧ ∀ x ∈ don, 0 ≤ x) () ?_ rfl ⟨rfl, by simp⟩ Ty.mixed (by kernel_rfl) ?_ ?_
  · simp (disch := omega) only [go_sem, bne_self_eq_false, beq_self_eq_true, true_and, and_true, decide_true, decide_false, wrap_i64, ↓reduceIte, Nat.reduceAdd, Nat.reduceSub, Nat.reduceMul, Nat.reduceEqDiff, Nat.reduceLeDiff, Int.reduceAdd, Int.reduceSub, Int.reduceNeg, Int.reduceLT, Int.reduceLE, Int.reduceEq, Int.reduceToNat, Nat.reduceMod]
  · rintro don x r _ rfl ⟨hn, hd⟩
    have hl3 := len_mid hl
    simp (disch := omega) only [go_sem, bne_self_eq_false, beq_self_eq_true, true_and, and_true, decide_true, decide_false, wrap_i64, ↓reduceIte, Nat.reduceAdd, Nat.reduceSub, Nat.reduceMul, Nat.reduceEqDiff, Nat.reduceLeDiff, Int.reduceAdd, Int.reduceSub, Int.reduceNeg, Int.reduceLT, Int.reduceLE, Int.reduceEq, Int.reduceToNat, Nat.reduceMod, encI, List.length_map, List.map_append, List.map_cons, List.length_append]
    refine aIf.pos (by omega) ?_
    simp (disch := omega) only [go_sem, bne_self_eq_false, beq_self_eq_true, true_and, and_true, decide_true, decide_false, wrap_i64, ↓reduceIte, Nat.reduceAdd, Nat.reduceSub, Nat.reduceMul, Nat.reduceEqDiff, Nat.reduceLeDiff, Int.reduceAdd, Int.reduceSub, Int.reduceNeg, Int.reduceLT, Int.reduceLE, Int.reduceEq, Int.reduceToNat, Nat.reduceMod, encI, List.length_map, List.map_append, List.map_cons, List.length_append]
    refine aIf.intro (fun h1 => ?_) (fun h1 => ?_) <;> simp (disch := omega) only [go_sem, bne_self_eq_false, beq_self_eq_true, true_and, and_true, decide_true, decide_false, wrap_i64, ↓reduceIte, Nat.reduceAdd, Nat.reduceSub, Nat.reduceMul, Nat.reduceEqDiff, Nat.reduceLeDiff, Int.reduceAdd, Int.reduceSub, Int.reduceNeg, Int.reduceLT, Int.reduceLE, Int.reduceEq, Int.reduceToNat, Nat.reduceMod]
    · rw [hn]
      rcases List.eq_nil_or_concat don with rfl | ⟨d, y, rfl⟩
      · rw [ascF_not _ _ _ (.inl (by simp only [lastOf]; omega))]
      · have := hd y (by simp)
        rw [List.concat_eq_append, lastOf_app, ascF_not _ _ _ (.inl (by omega))]
    refine aIf.intro (fun h2 => ?_) (fun h2 => ?_) <;> simp (disch := omega) only [go_sem, bne_self_eq_false, beq_self_eq_true, true_and, and_true, decide_true, decide_false, wrap_i64, ↓reduceIte, Nat.reduceAdd, Nat.reduceSub, Nat.reduceMul, Nat.reduceEqDiff, Nat.reduceLeDiff, Int.reduceAdd, Int.reduceSub, Int.reduceNeg, Int.reduceLT, Int.reduceLE, Int.reduceEq, Int.reduceToNat, Nat.reduceMod]
    · rw [hn, ascF_not _ _ _ (.inr (by omega))]
    rcases List.eq_nil_or_concat don with rfl | ⟨d, y, rfl⟩
    · simp (disch := omega) only [go_sem, bne_self_eq_false, beq_self_eq_true, true_and, and_true, decide_true, decide_false, wrap_i64, ↓reduceIte, Nat.reduceAdd, Nat.reduceSub, Nat.reduceMul, Nat.reduceEqDiff, Nat.reduceLeDiff, Int.reduceAdd, Int.reduceSub, Int.reduceNeg, Int.reduceLT, Int.reduceLE, Int.reduceEq, Int.reduceToNat, Nat.reduceMod, List.length_nil]
      refine roundL_next () ⟨?_, ?_⟩ ?_ rfl
      · rw [List.nil_append] at hn; rw [hn, lastOf_app, ascF_cons _ _ _ (by simp only [lastOf]; omega) (by omega)]
      · simp; omega
      · simp (disch := omega) only [go_sem, bne_self_eq_false, beq_self_eq_true, true_and, and_true, decide_true, decide_false, wrap_i64, ↓reduceIte, Nat.reduceAdd, Nat.reduceSub, Nat.reduceMul, Nat.reduceEqDiff, Nat.reduceLeDiff, Int.reduceAdd, Int.reduceSub, Int.reduceNeg, Int.reduceLT, Int.reduceLE, Int.reduceEq, Int.reduceToNat, Nat.reduceMod, List.length_append, encI, List.map_append, List.map_cons]
    · rw [List.concat_eq_append] at *
      rw [lastOf_app] at hn
      have hl4 : d.length + 1 + 1 + r.length ≤ 9223372036854775807 := by simp at hl3; omega
      refine aIf.pos (by simp) ?_
      have e1 : IntKind.i64.wrap (d.length : Int) = d.length := IntWalk.i64_in _ ⟨by omega, by omega⟩
      have e2 : (d.map (fun i => AV.int IntKind.i64 i) ++ [.int .i64 y] ++ .int .i64 x :: r.map fun i => AV.int IntKind.i64 i)[d.length]? = some (.int .i64 y) := by simp
      simp (disch := omega) only [go_sem, bne_self_eq_false, beq_self_eq_true, true_and, and_true, decide_true, decide_false, wrap_i64, ↓reduceIte, Nat.reduceAdd, Nat.reduceSub, Nat.reduceMul, Nat.reduceEqDiff, Nat.reduceLeDiff, Int.reduceAdd, Int.reduceSub, Int.reduceNeg, Int.reduceLT, Int.reduceLE, Int.reduceEq, Int.reduceToNat, Nat.reduceMod, List.length_append, List.map_append, List.map_cons, e1]
      rw [e2]
      have e3 : (d.map (fun i => AV.int IntKind.i64 i) ++ [.int .i64 y] ++ .int .i64 x :: r.map fun i => AV.int IntKind.i64 i)[d.length + 1]? = some (.int .i64 x) := by simp
      have e4 : ((d.length : Int) + 1).toNat = d.length + 1 := by omega
      simp (disch := omega) only [go_sem, bne_self_eq_false, beq_self_eq_true, true_and, and_true, decide_true, decide_false, wrap_i64, ↓reduceIte, Nat.reduceAdd, Nat.reduceSub, Nat.reduceMul, Nat.reduceEqDiff, Nat.reduceLeDiff, Int.reduceAdd, Int.reduceSub, Int.reduceNeg, Int.reduceLT, Int.reduceLE, Int.reduceEq, Int.reduceToNat, Nat.reduceMod, e4, e3]
      refine ⟨by omega, ?_⟩
      refine aIf.intro (fun h5 => ?_) (fun h5 => ?_) <;> simp (disch := omega) only [go_sem, bne_self_eq_false, beq_self_eq_true, true_and, and_true, decide_true, decide_false, wrap_i64, ↓reduceIte, Nat.reduceAdd, Nat.reduceSub, Nat.reduceMul, Nat.reduceEqDiff, Nat.reduceLeDiff, Int.reduceAdd, Int.reduceSub, Int.reduceNeg, Int.reduceLT, Int.reduceLE, Int.reduceEq, Int.reduceToNat, Nat.reduceMod]
      · rw [hn, ascF_not _ _ _ (.inl (by omega))]
      · refine roundL_next () ⟨?_, ?_⟩ ?_ rfl
        · rw [hn, lastOf_app, ascF_cons _ _ _ (by omega) (by omega)]
        · intro z hz
          rcases List.mem_append.1 hz with hz | hz
          · exact hd z hz
          · simp at hz; omega
        · simp (disch := omega) only [go_sem, bne_self_eq_false, beq_self_eq_true, true_and, and_true, decide_true, decide_false, wrap_i64, ↓reduceIte, Nat.reduceAdd, Nat.reduceSub, Nat.reduceMul, Nat.reduceEqDiff, Nat.reduceLeDiff, Int.reduceAdd, Int.reduceSub, Int.reduceNeg, Int.reduceLT, Int.reduceLE, Int.reduceEq, Int.reduceToNat, Nat.reduceMod, List.length_append, encI, List.map_append, List.map_cons]
  · rintro _ ⟨hn, hd⟩
    simp (disch := omega) only [go_sem, bne_self_eq_false, beq_self_eq_true, true_and, and_true, decide_true, decide_false, wrap_i64, ↓reduceIte, Nat.reduceAdd, Nat.reduceSub, Nat.reduceMul, Nat.reduceEqDiff, Nat.reduceLeDiff, Int.reduceAdd, Int.reduceSub, Int.reduceNeg, Int.reduceLT, Int.reduceLE, Int.reduceEq, Int.reduceToNat, Nat.reduceMod, encI, List.length_map]
    refine AWP.keep [] (aCode_ok Ty.mixed _ _ _ _ (by kernel_rfl) ?_)
    simp (disch := omega) only [go_sem, bne_self_eq_false, beq_self_eq_true, true_and, and_true, decide_true, decide_false, wrap_i64, ↓reduceIte, Nat.reduceAdd, Nat.reduceSub, Nat.reduceMul, Nat.reduceEqDiff, Nat.reduceLeDiff, Int.reduceAdd, Int.reduceSub, Int.reduceNeg, Int.reduceLT, Int.reduceLE, Int.reduceEq, Int.reduceToNat, Nat.reduceMod]
    simp [hn, ascF]

/-! ### holds -/
mutual
def rholdsF (W : Int → Bool) : Gt → Bool
  | .mk p n l => if 0 ≤ p then W p else decide (n ≤ (rcnt W l : Int))
def rcnt (W : Int → Bool) : List Gt → Nat
  | [] => 0
  | x :: r => (if rholdsF W x then 1 else 0) + rcnt W r
end
theorem rcnt_app (W : Int → Bool) (a b : List Gt) : rcnt W (a ++ b) = rcnt W a + rcnt W b := by
  induction a with
  | nil => simp [rcnt]
  | cons x r ih => simp only [List.cons_append, rcnt, ih]; omega
theorem rcnt_le (W : Int → Bool) (l : List Gt) : rcnt W l ≤ l.length := by
  induction l with
  | nil => simp [rcnt]
  | cons x r ih => simp only [rcnt, List.length_cons]; split <;> omega
set_option maxRecDepth 100000 in
theorem rholds_calls_k (Γ : Nat → Option (List AV)) (who : List Int) (hw : who.length ≤ 9223372036854775807) : ∀ (k : Nat) (g : Gt) (h : AH), SizeOf.sizeOf g < k → Sh g →
    ACalls Try.prog Γ 106 [encG g, .sl (encI who) .free] h fun v h' => h' = h ∧ v = .bool (rholdsF (fun p => decide (p ∈ who)) g)
  | 0, _, _, hk, _ => absurd hk (Nat.not_lt_zero _)
  | k + 1, .mk p n l, h, hsz, hs => by
    refine ACalls.drop ?_
    refine acalls_code (rs := [.tmp 4]) Try.func106 rfl rfl rfl rfl Ty.mixed (by kernel_rfl) ?_
    simp only [encG_mk]
    simp (disch := omega) only [go_sem, bne_self_eq_false, beq_self_eq_true, true_and, and_true, decide_true, decide_false, wrap_i64, ↓reduceIte, Nat.reduceAdd, Nat.reduceSub, Nat.reduceMul, Nat.reduceEqDiff, Nat.reduceLeDiff, Int.reduceAdd, Int.reduceSub, Int.reduceNeg, Int.reduceLT, Int.reduceLE, Int.reduceEq, Int.reduceToNat, Nat.reduceMod]
    refine aIf.intro (fun h1 => ?_) (fun h1 => ?_) <;> simp (disch := omega) only [go_sem, bne_self_eq_false, beq_self_eq_true, true_and, and_true, decide_true, decide_false, wrap_i64, ↓reduceIte, Nat.reduceAdd, Nat.reduceSub, Nat.reduceMul, Nat.reduceEqDiff, Nat.reduceLeDiff, Int.reduceAdd, Int.reduceSub, Int.reduceNeg, Int.reduceLT, Int.reduceLE, Int.reduceEq, Int.reduceToNat, Nat.reduceMod]
    · refine ACalls.det (has_calls Γ who p _ hw) ?_
      simp (disch := omega) only [go_sem, bne_self_eq_false, beq_self_eq_true, true_and, and_true, decide_true, decide_false, wrap_i64, ↓reduceIte, Nat.reduceAdd, Nat.reduceSub, Nat.reduceMul, Nat.reduceEqDiff, Nat.reduceLeDiff, Int.reduceAdd, Int.reduceSub, Int.reduceNeg, Int.reduceLT, Int.reduceLE, Int.reduceEq, Int.reduceToNat, Nat.reduceMod]
      simp [rholdsF, h1]
    have hl1 := hs.len
    have hl2 := hs.mem
    refine awp_loopL (β := Unit) l [1, 2, 5, 6] (fun don _ => [(1, .sl (encI who) .free), (2, .ptr (some (h.length, 0))), (5, .int .i64 (rcnt (fun p => decide (p ∈ who)) don)), (6, .int .i64 don.length)])
      (fun _ => h ++ [AObj.row [AV.int IntKind.i64 p, AV.int IntKind.i64 n, AV.sl (l.map encG) Own.free] 24]) (fun _ _ _ => True) () ?_ rfl trivial Ty.mixed (by kernel_rfl) ?_ ?_
    · simp (disch := omega) only [go_sem, bne_self_eq_false, beq_self_eq_true, true_and, and_true, decide_true, decide_false, wrap_i64, ↓reduceIte, Nat.reduceAdd, Nat.reduceSub, Nat.reduceMul, Nat.reduceEqDiff, Nat.reduceLeDiff, Int.reduceAdd, Int.reduceSub, Int.reduceNeg, Int.reduceLT, Int.reduceLE, Int.reduceEq, Int.reduceToNat, Nat.reduceMod]
      simp [rcnt]
    · rintro don x r _ rfl _
      have hl3 := len_mid hl1
      have hc := rcnt_le (fun p => decide (p ∈ who)) don
      simp (disch := omega) only [go_sem, bne_self_eq_false, beq_self_eq_true, true_and, and_true, decide_true, decide_false, wrap_i64, ↓reduceIte, Nat.reduceAdd, Nat.reduceSub, Nat.reduceMul, Nat.reduceEqDiff, Nat.reduceLeDiff, Int.reduceAdd, Int.reduceSub, Int.reduceNeg, Int.reduceLT, Int.reduceLE, Int.reduceEq, Int.reduceToNat, Nat.reduceMod, List.map_append, List.map_cons, List.length_append]
      refine aIf.pos (by omega) ?_
      simp (disch := omega) only [go_sem, bne_self_eq_false, beq_self_eq_true, true_and, and_true, decide_true, decide_false, wrap_i64, ↓reduceIte, Nat.reduceAdd, Nat.reduceSub, Nat.reduceMul, Nat.reduceEqDiff, Nat.reduceLeDiff, Int.reduceAdd, Int.reduceSub, Int.reduceNeg, Int.reduceLT, Int.reduceLE, Int.reduceEq, Int.reduceToNat, Nat.reduceMod]
      refine ACalls.det (rholds_calls_k Γ who hw k x _ (mem_sz (by simp) hsz) (hl2 x (by simp))) ?_
      simp (disch := omega) only [go_sem, bne_self_eq_false, beq_self_eq_true, true_and, and_true, decide_true, decide_false, wrap_i64, ↓reduceIte, Nat.reduceAdd, Nat.reduceSub, Nat.reduceMul, Nat.reduceEqDiff, Nat.reduceLeDiff, Int.reduceAdd, Int.reduceSub, Int.reduceNeg, Int.reduceLT, Int.reduceLE, Int.reduceEq, Int.reduceToNat, Nat.reduceMod]
      refine aBr.intro (fun hb => ?_) (fun hb => ?_) <;> simp (disch := omega) only [go_sem, bne_self_eq_false, beq_self_eq_true, true_and, and_true, decide_true, decide_false, wrap_i64, ↓reduceIte, Nat.reduceAdd, Nat.reduceSub, Nat.reduceMul, Nat.reduceEqDiff, Nat.reduceLeDiff, Int.reduceAdd, Int.reduceSub, Int.reduceNeg, Int.reduceLT, Int.reduceLE, Int.reduceEq, Int.reduceToNat, Nat.reduceMod]
      · refine roundL_next () trivial ?_ (by simp)
        simp (disch := omega) only [go_sem, bne_self_eq_false, beq_self_eq_true, true_and, and_true, decide_true, decide_false, wrap_i64, ↓reduceIte, Nat.reduceAdd, Nat.reduceSub, Nat.reduceMul, Nat.reduceEqDiff, Nat.reduceLeDiff, Int.reduceAdd, Int.reduceSub, Int.reduceNeg, Int.reduceLT, Int.reduceLE, Int.reduceEq, Int.reduceToNat, Nat.reduceMod, List.length_append]
        rw [rcnt_app]; simp [rcnt, hb]
      · refine roundL_next () trivial ?_ (by simp)
        simp (disch := omega) only [go_sem, bne_self_eq_false, beq_self_eq_true, true_and, and_true, decide_true, decide_false, wrap_i64, ↓reduceIte, Nat.reduceAdd, Nat.reduceSub, Nat.reduceMul, Nat.reduceEqDiff, Nat.reduceLeDiff, Int.reduceAdd, Int.reduceSub, Int.reduceNeg, Int.reduceLT, Int.reduceLE, Int.reduceEq, Int.reduceToNat, Nat.reduceMod, List.length_append]
        rw [rcnt_app]; simp [rcnt, hb]
    · intro _ _
      simp (disch := omega) only [go_sem, bne_self_eq_false, beq_self_eq_true, true_and, and_true, decide_true, decide_false, wrap_i64, ↓reduceIte, Nat.reduceAdd, Nat.reduceSub, Nat.reduceMul, Nat.reduceEqDiff, Nat.reduceLeDiff, Int.reduceAdd, Int.reduceSub, Int.reduceNeg, Int.reduceLT, Int.reduceLE, Int.reduceEq, Int.reduceToNat, Nat.reduceMod, List.length_map]
      refine AWP.keep [2, 5] (aCode_ok Ty.mixed _ _ _ _ (by kernel_rfl) ?_)
      simp (disch := omega) only [go_sem, bne_self_eq_false, beq_self_eq_true, true_and, and_true, decide_true, decide_false, wrap_i64, ↓reduceIte, Nat.reduceAdd, Nat.reduceSub, Nat.reduceMul, Nat.reduceEqDiff, Nat.reduceLeDiff, Int.reduceAdd, Int.reduceSub, Int.reduceNeg, Int.reduceLT, Int.reduceLE, Int.reduceEq, Int.reduceToNat, Nat.reduceMod]
      simp [rholdsF, h1]
theorem rholds_calls (Γ : Nat → Option (List AV)) (who : List Int) (g : Gt) (h : AH) (hw : who.length ≤ 9223372036854775807) (hs : Sh g) :
    ACalls Try.prog Γ 106 [encG g, .sl (encI who) .free] h fun v h' => h' = h ∧ v = .bool (rholdsF (fun p => decide (p ∈ who)) g) := rholds_calls_k Γ who hw _ g h (Nat.lt_succ_self _) hs
end Go.Proofs.Ytopiamdfnaejeaa
