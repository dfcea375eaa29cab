/- The statement that a gate counts its elements: what its code hands back. No conditions. -/
import Derived.Test.YtkcpnmphlanocaaLawC
set_option linter.unusedSimpArgs false
set_option linter.unusedVariables false
namespace Go.Proofs.Ytkcpnmphlanocaa
open Go Go.Proofs Go.Abs

theorem smallF_of {g : Gt} (h : smallF g = true) : checkF g = 0 ∧ allLeaves g ≤ 60 := by
  simp only [smallF, Bool.and_eq_true, decide_eq_true_eq] at h
  have := leaves_all g 60 (by omega)
  omega
theorem rowsOK_G (l : List Gt) : RowsOK 3 (l.map encG) := fun r hr => by
  obtain ⟨x, _, rfl⟩ := List.mem_map.1 hr
  cases x
  exact ⟨by simp [encG, AV.cells], by simp [encG, AV.cells, AV.one]⟩
theorem len_leaves (l : List Gt) : (l.length : Int) ≤ allLeavesL l := by
  induction l with
  | nil => simp [allLeavesL]
  | cons x r ih =>
    have := allLeaves_pos x
    rw [allLeavesL]; simp; omega

theorem loose_I (l : List Int) : looseL (encI l) = encI l := looseL_maps _ (fun _ => by rw [loose]) l
theorem counted_calls (Γ : Nat → Option (List AV)) (g : Gt) (some_ turn : Int) (h : AH) (hs : Sh g) (h0 : 0 ≤ some_) (ht : 0 ≤ turn) (ht' : turn ≤ 255) :
    ACalls Try.prog Γ 5 [encG g, .int .u64 some_, .int .u8 turn] h fun v h' => h' = h ∧ v = .bool true := by
  refine ACalls.drop ?_
  obtain ⟨p, n, l⟩ := g
  refine acalls_code (rs := [.tmp 6]) Try.func5 rfl rfl rfl rfl Ty.mixed rfl ?_
  simp only [encG_mk]
  simp (disch := omega) only [go_sem, bne_self_eq_false, beq_self_eq_true, true_and, and_true, decide_true, decide_false, wrap_i64, ↓reduceIte, Nat.reduceAdd, Nat.reduceSub, Nat.reduceMul, Nat.reduceEqDiff, Nat.reduceLeDiff, Int.reduceAdd, Int.reduceSub, Int.reduceNeg, Int.reduceLT, Int.reduceLE, Int.reduceEq, Int.reduceToNat, Nat.reduceMod]
  refine ACalls.det (sane_calls Γ _) ?_
  simp (disch := omega) only [go_sem, bne_self_eq_false, beq_self_eq_true, true_and, and_true, decide_true, decide_false, wrap_i64, ↓reduceIte, Nat.reduceAdd, Nat.reduceSub, Nat.reduceMul, Nat.reduceEqDiff, Nat.reduceLeDiff, Int.reduceAdd, Int.reduceSub, Int.reduceNeg, Int.reduceLT, Int.reduceLE, Int.reduceEq, Int.reduceToNat, Nat.reduceMod]
  rw [← encG_mk]
  refine ACalls.det (small_calls Γ _ _ hs) ?_
  simp (disch := omega) only [go_sem, bne_self_eq_false, beq_self_eq_true, true_and, and_true, decide_true, decide_false, wrap_i64, ↓reduceIte, Nat.reduceAdd, Nat.reduceSub, Nat.reduceMul, Nat.reduceEqDiff, Nat.reduceLeDiff, Int.reduceAdd, Int.reduceSub, Int.reduceNeg, Int.reduceLT, Int.reduceLE, Int.reduceEq, Int.reduceToNat, Nat.reduceMod]
  refine aBr.intro (fun hsm => ?_) (fun hsm => ?_) <;> simp (disch := omega) only [go_sem, bne_self_eq_false, beq_self_eq_true, true_and, and_true, decide_true, decide_false, wrap_i64, ↓reduceIte, Nat.reduceAdd, Nat.reduceSub, Nat.reduceMul, Nat.reduceEqDiff, Nat.reduceLeDiff, Int.reduceAdd, Int.reduceSub, Int.reduceNeg, Int.reduceLT, Int.reduceLE, Int.reduceEq, Int.reduceToNat, Nat.reduceMod]
  obtain ⟨hck, hlv⟩ := smallF_of hsm
  have hrt := ((check0 _).1 hck).2.2
  have hl1 := hs.len
  refine ACalls.det (people_calls Γ some_ _ h0) ?_
  rw [encP_I]
  simp (disch := omega) only [go_sem, bne_self_eq_false, beq_self_eq_true, true_and, and_true, decide_true, decide_false, wrap_i64, ↓reduceIte, Nat.reduceAdd, Nat.reduceSub, Nat.reduceMul, Nat.reduceEqDiff, Nat.reduceLeDiff, Int.reduceAdd, Int.reduceSub, Int.reduceNeg, Int.reduceLT, Int.reduceLE, Int.reduceEq, Int.reduceToNat, Nat.reduceMod]
  refine ACalls.det ((Holds_calls Γ _ (pplI some_) _ hs (len_ppl _)).args (by rw [encG_mk])) ?_
  rw [holdsR_ppl hck]
  simp (disch := omega) only [go_sem, bne_self_eq_false, beq_self_eq_true, true_and, and_true, decide_true, decide_false, wrap_i64, ↓reduceIte, Nat.reduceAdd, Nat.reduceSub, Nat.reduceMul, Nat.reduceEqDiff, Nat.reduceLeDiff, Int.reduceAdd, Int.reduceSub, Int.reduceNeg, Int.reduceLT, Int.reduceLE, Int.reduceEq, Int.reduceToNat, Nat.reduceMod, encR]
  refine aIf.intro (fun hp => ?_) (fun hp => ?_) <;> simp (disch := omega) only [go_sem, bne_self_eq_false, beq_self_eq_true, true_and, and_true, decide_true, decide_false, wrap_i64, ↓reduceIte, Nat.reduceAdd, Nat.reduceSub, Nat.reduceMul, Nat.reduceEqDiff, Nat.reduceLeDiff, Int.reduceAdd, Int.reduceSub, Int.reduceNeg, Int.reduceLT, Int.reduceLE, Int.reduceEq, Int.reduceToNat, Nat.reduceMod]
  · have hp64 : p < 64 := by
      simp [rightF, hp] at hrt; exact hrt.1.1
    obtain ⟨m, rfl⟩ := Int.eq_ofNat_of_zero_le hp
    have hm : m < 64 := by omega
    refine ⟨hp, ?_⟩
    rw [Int.toNat_natCast, bit_and _ _ h0 hm, holdsF, if_pos hp]
    simp only [WB, mem_ppl, Int.toNat_natCast]
    cases bitOf some_ m <;> simp [hm]
    omega
  have hN := (right_mk hp).1 hrt
  have hl60 : l.length ≤ 60 := by
    have := len_leaves l
    rw [allLeaves_mk] at hlv
    split at hlv
    · subst l; simp
    · omega
  have hmem : ∀ x ∈ l, checkF x = 0 := fun x hx => check_mem hp hck hx
  refine awp_loopL (β := Int × AH) l [49, 48, 47, 10, 8, 7, 3, 2] (fun don b => [(49, .int .i64 don.length), (48, .int .i64 l.length), (47, .sl (l.map encG) .free), (10, .int .i64 b.1), (8, .bool (holdsF (WB some_) (.mk p n l))), (7, .sl (encI (pplI some_)) .free), (3, .ptr (some (h.length, 0))), (2, .int .u8 turn)])
    (fun b => (h ++ [.row [.int .i64 p, .int .i64 n, .sl (l.map encG) .free] 24]) ++ b.2) (fun don _ b => b.1 = ((don.filter (holdsF (WB some_))).length : Int)) (0, []) ?_ (by simp) rfl Ty.mixed rfl ?_ ?_
  · simp (disch := omega) only [go_sem, bne_self_eq_false, beq_self_eq_true, true_and, and_true, decide_true, decide_false, wrap_i64, ↓reduceIte, Nat.reduceAdd, Nat.reduceSub, Nat.reduceMul, Nat.reduceEqDiff, Nat.reduceLeDiff, Int.reduceAdd, Int.reduceSub, Int.reduceNeg, Int.reduceLT, Int.reduceLE, Int.reduceEq, Int.reduceToNat, Nat.reduceMod]
  · rintro don x r ⟨b, j⟩ rfl hb
    have hl3 := len_mid hl1
    simp only at hb ⊢
    simp (disch := omega) only [go_sem, bne_self_eq_false, beq_self_eq_true, true_and, and_true, decide_true, decide_false, wrap_i64, ↓reduceIte, Nat.reduceAdd, Nat.reduceSub, Nat.reduceMul, Nat.reduceEqDiff, Nat.reduceLeDiff, Int.reduceAdd, Int.reduceSub, Int.reduceNeg, Int.reduceLT, Int.reduceLE, Int.reduceEq, Int.reduceToNat, Nat.reduceMod, List.map_append, List.map_cons, List.length_append]
    refine aIf.pos (by omega) ?_
    simp (disch := omega) only [go_sem, bne_self_eq_false, beq_self_eq_true, true_and, and_true, decide_true, decide_false, wrap_i64, ↓reduceIte, Nat.reduceAdd, Nat.reduceSub, Nat.reduceMul, Nat.reduceEqDiff, Nat.reduceLeDiff, Int.reduceAdd, Int.reduceSub, Int.reduceNeg, Int.reduceLT, Int.reduceLE, Int.reduceEq, Int.reduceToNat, Nat.reduceMod]
    have hx := hmem x (by simp)
    refine ACalls.det (Holds_calls Γ x (pplI some_) _ (hs.mem x (by simp)) (len_ppl _)) ?_
    rw [holdsR_ppl hx]
    simp (disch := omega) only [go_sem, bne_self_eq_false, beq_self_eq_true, true_and, and_true, decide_true, decide_false, wrap_i64, ↓reduceIte, Nat.reduceAdd, Nat.reduceSub, Nat.reduceMul, Nat.reduceEqDiff, Nat.reduceLeDiff, Int.reduceAdd, Int.reduceSub, Int.reduceNeg, Int.reduceLT, Int.reduceLE, Int.reduceEq, Int.reduceToNat, Nat.reduceMod, encR]
    have hfl : (don.filter (holdsF (WB some_))).length ≤ don.length := List.length_filter_le ..
    refine aBr.intro (fun hh => ?_) (fun hh => ?_) <;> simp (disch := omega) only [go_sem, bne_self_eq_false, beq_self_eq_true, true_and, and_true, decide_true, decide_false, wrap_i64, ↓reduceIte, Nat.reduceAdd, Nat.reduceSub, Nat.reduceMul, Nat.reduceEqDiff, Nat.reduceLeDiff, Int.reduceAdd, Int.reduceSub, Int.reduceNeg, Int.reduceLT, Int.reduceLE, Int.reduceEq, Int.reduceToNat, Nat.reduceMod]
    · refine roundL_next (b + 1, j ++ [.row (encG x).cells 24]) ?_ ?_ (by simp)
      · simp [List.filter_append, hh, hb]
      · simp (disch := omega) only [go_sem, bne_self_eq_false, beq_self_eq_true, true_and, and_true, decide_true, decide_false, wrap_i64, ↓reduceIte, Nat.reduceAdd, Nat.reduceSub, Nat.reduceMul, Nat.reduceEqDiff, Nat.reduceLeDiff, Int.reduceAdd, Int.reduceSub, Int.reduceNeg, Int.reduceLT, Int.reduceLE, Int.reduceEq, Int.reduceToNat, Nat.reduceMod, List.map_append, List.map_cons, List.length_append]
    · refine roundL_next (b, j ++ [.row (encG x).cells 24]) ?_ ?_ (by simp)
      · simp only [Bool.not_true] at hh
        simp [List.filter_append, hh, hb]
      · simp (disch := omega) only [go_sem, bne_self_eq_false, beq_self_eq_true, true_and, and_true, decide_true, decide_false, wrap_i64, ↓reduceIte, Nat.reduceAdd, Nat.reduceSub, Nat.reduceMul, Nat.reduceEqDiff, Nat.reduceLeDiff, Int.reduceAdd, Int.reduceSub, Int.reduceNeg, Int.reduceLT, Int.reduceLE, Int.reduceEq, Int.reduceToNat, Nat.reduceMod, List.map_append, List.map_cons, List.length_append]
  · rintro ⟨b, j⟩ hb
    simp only at hb ⊢
    simp (disch := omega) only [go_sem, bne_self_eq_false, beq_self_eq_true, true_and, and_true, decide_true, decide_false, wrap_i64, ↓reduceIte, Nat.reduceAdd, Nat.reduceSub, Nat.reduceMul, Nat.reduceEqDiff, Nat.reduceLeDiff, Int.reduceAdd, Int.reduceSub, Int.reduceNeg, Int.reduceLT, Int.reduceLE, Int.reduceEq, Int.reduceToNat, Nat.reduceMod]
    refine AWP.keep [10, 8, 7, 3, 2] (aCode_ok Ty.mixed _ _ _ _ rfl ?_)
    simp (disch := omega) only [go_sem, bne_self_eq_false, beq_self_eq_true, true_and, and_true, decide_true, decide_false, wrap_i64, ↓reduceIte, Nat.reduceAdd, Nat.reduceSub, Nat.reduceMul, Nat.reduceEqDiff, Nat.reduceLeDiff, Int.reduceAdd, Int.reduceSub, Int.reduceNeg, Int.reduceLT, Int.reduceLE, Int.reduceEq, Int.reduceToNat, Nat.reduceMod]
    have hend : holdsF (WB some_) (.mk p n l) = decide (n ≤ b) := by rw [hb]; exact holdsF_gate _ hp hN.2.1
    refine aIf.intro (fun hl => ?_) (fun hl => ?_) <;> simp (disch := omega) only [go_sem, bne_self_eq_false, beq_self_eq_true, true_and, and_true, decide_true, decide_false, wrap_i64, ↓reduceIte, Nat.reduceAdd, Nat.reduceSub, Nat.reduceMul, Nat.reduceEqDiff, Nat.reduceLeDiff, Int.reduceAdd, Int.reduceSub, Int.reduceNeg, Int.reduceLT, Int.reduceLE, Int.reduceEq, Int.reduceToNat, Nat.reduceMod]
    · have hlpos : 0 < l.length := by omega
      have hk0 : 0 ≤ turn.tmod l.length := Int.tmod_nonneg _ ht
      have hk1 : turn.tmod l.length < l.length := Int.tmod_lt_of_pos _ (by omega)
      generalize hk : turn.tmod l.length = k at hk0 hk1 ⊢
      refine ⟨by omega, rowsOK_G l, hk0, by omega, ?_⟩
      rw [← List.map_drop]
      have hd1 : (l.drop k.toNat).length ≤ l.length := by simp
      have hd2 : (l.take k.toNat).length ≤ l.length := by simp; omega
      refine aAp_full (.nil _) (rowsOK_G _) (by simp; omega) (by simp; omega) ?_
      simp (disch := omega) only [go_sem, bne_self_eq_false, beq_self_eq_true, true_and, and_true, decide_true, decide_false, wrap_i64, ↓reduceIte, Nat.reduceAdd, Nat.reduceSub, Nat.reduceMul, Nat.reduceEqDiff, Nat.reduceLeDiff, Int.reduceAdd, Int.reduceSub, Int.reduceNeg, Int.reduceLT, Int.reduceLE, Int.reduceEq, Int.reduceToNat, Nat.reduceMod]
      refine ⟨rowsOK_G l, hk0, by omega, ?_⟩
      rw [← List.map_take]
      refine aAp_arena (by simp (disch := omega) only [go_sem, bne_self_eq_false, beq_self_eq_true, true_and, and_true, decide_true, decide_false, wrap_i64, ↓reduceIte, Nat.reduceAdd, Nat.reduceSub, Nat.reduceMul, Nat.reduceEqDiff, Nat.reduceLeDiff, Int.reduceAdd, Int.reduceSub, Int.reduceNeg, Int.reduceLT, Int.reduceLE, Int.reduceEq, Int.reduceToNat, Nat.reduceMod]; simp) (rowsOK_G _) (rowsOK_G _) (by simp; omega) (by simp; omega) ?_
      rw [← List.map_append]
      simp (disch := omega) only [go_sem, bne_self_eq_false, beq_self_eq_true, true_and, and_true, decide_true, decide_false, wrap_i64, ↓reduceIte, Nat.reduceAdd, Nat.reduceSub, Nat.reduceMul, Nat.reduceEqDiff, Nat.reduceLeDiff, Int.reduceAdd, Int.reduceSub, Int.reduceNeg, Int.reduceLT, Int.reduceLE, Int.reduceEq, Int.reduceToNat, Nat.reduceMod]
      have hperm : (l.drop k.toNat ++ l.take k.toNat).Perm l := by
        have := (List.perm_append_comm (l₁ := l.drop k.toNat) (l₂ := l.take k.toNat))
        rwa [List.take_append_drop] at this
      have hck' := perm_check hp hperm hck
      have hs' : Sh (.mk p n (l.drop k.toNat ++ l.take k.toNat)) := by
        cases hs with
        | mk a1 a2 a3 a4 a5 a6 => exact .mk (by rw [hperm.length_eq]; exact a1) (fun x hx => a2 x (hperm.mem_iff.1 hx)) a3 a4 a5 a6
      refine ACalls.det ((Holds_calls Γ _ (pplI some_) _ hs' (len_ppl _)).ofLoose (by simp only [looseL, loose, loose_Gs, loose_I, encG_mk])) ?_
      rw [holdsR_ppl hck', perm_holds _ hp hN.2.1 hperm]
      simp (disch := omega) only [go_sem, bne_self_eq_false, beq_self_eq_true, true_and, and_true, decide_true, decide_false, wrap_i64, ↓reduceIte, Nat.reduceAdd, Nat.reduceSub, Nat.reduceMul, Nat.reduceEqDiff, Nat.reduceLeDiff, Int.reduceAdd, Int.reduceSub, Int.reduceNeg, Int.reduceLT, Int.reduceLE, Int.reduceEq, Int.reduceToNat, Nat.reduceMod, encR]
      rw [hend]
      simp (disch := omega) only [go_sem, bne_self_eq_false, beq_self_eq_true, true_and, and_true, decide_true, decide_false, wrap_i64, ↓reduceIte, Nat.reduceAdd, Nat.reduceSub, Nat.reduceMul, Nat.reduceEqDiff, Nat.reduceLeDiff, Int.reduceAdd, Int.reduceSub, Int.reduceNeg, Int.reduceLT, Int.reduceLE, Int.reduceEq, Int.reduceToNat, Nat.reduceMod]
    · rw [hend]; simp
end Go.Proofs.Ytkcpnmphlanocaa
