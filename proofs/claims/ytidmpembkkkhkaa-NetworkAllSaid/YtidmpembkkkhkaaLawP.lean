/- What follows of nets that are valid. No conditions. -/
import Derived.Test.YtidmpembkkkhkaaLawA
set_option linter.unusedSimpArgs false
set_option linter.unusedVariables false
namespace Go.Proofs.Ytidmpembkkkhkaa
open Go Go.Proofs Go.Abs

theorem check0 (n : Nt) : checkF n = 0 ↔ n.q.length ≤ 4096 ∧ (∀ p ∈ n.q, packetF p = true) ∧ linksF none n.a = true := by
  have e : (∀ p ∈ n.q, packetF p = true) ↔ n.q.all packetF = true := by simp
  rw [e]
  unfold checkF
  by_cases h1 : n.q.length ≤ 4096
  · rw [if_pos (by omega)]
    cases n.q.all packetF <;> cases linksF none n.a <;> simp [h1]
  · rw [if_neg (by omega)]
    simp [h1]
theorem send0 {n : Nt} {p : Pk} (h : checkF n = 0) (hp : packetF p = true) (hl : n.q.length ≠ 4096) : sendF n p = (⟨n.q ++ [p], n.a⟩, 0) := by simp [sendF, h, hp, hl]
theorem check_app {n : Nt} {p : Pk} (h : checkF n = 0) (hp : packetF p = true) (hl : n.q.length ≠ 4096) : checkF ⟨n.q ++ [p], n.a⟩ = 0 := by
  obtain ⟨h1, h2, h3⟩ := (check0 n).1 h
  refine (check0 _).2 ⟨by simp; omega, fun x hx => ?_, h3⟩
  rcases List.mem_append.1 hx with hx | hx
  · exact h2 x hx
  · rw [List.mem_singleton.1 hx]; exact hp
theorem ask0 {n : Nt} {k : Nat} (h : checkF n = 0) (hk : k < n.q.length) : askF n k = 0 := by
  have : (0 : Int) ≤ k ∧ (k : Int) < n.q.length := by omega
  simp [askF, h, hk]
theorem pk0 {n : Nt} {k : Nat} (h : checkF n = 0) (hk : k < n.q.length) : pkAt n k = n.q.getD k zK ∧ packetF (pkAt n k) = true := by
  have e : pkAt n k = n.q.getD k zK := by simp [pkAt, ask0 h hk]
  refine ⟨e, ?_⟩
  rw [e]
  refine ((check0 n).1 h).2.1 _ ?_
  simp [List.getD_eq_getElem?_getD, hk]
theorem check_without {n : Nt} {k : Nat} (h : checkF n = 0) : checkF (withoutF n k) = 0 := by
  obtain ⟨h1, h2, h3⟩ := (check0 n).1 h
  refine (check0 _).2 ⟨by simp [withoutF]; omega, fun x hx => ?_, h3⟩
  rcases List.mem_append.1 hx with hx | hx
  · exact h2 x (List.mem_of_mem_take hx)
  · exact h2 x (List.mem_of_mem_drop hx)
theorem without_len {n : Nt} {k : Nat} (hk : k < n.q.length) : (withoutF n k).q.length = n.q.length - 1 := by simp [withoutF]; omega
theorem lose0 {n : Nt} {k : Nat} (h : checkF n = 0) (hk : k < n.q.length) : loseF n k = (withoutF n k, 0) := by simp [loseF, ask0 h hk]
theorem deliver0 {n : Nt} {k : Nat} (h : checkF n = 0) (hk : k < n.q.length) : deliverF n k = (if betw (pkAt n k).f (pkAt n k).t ∈ n.a then zK else pkAt n k, withoutF n k, 0) := by simp [deliverF, ask0 h hk]
theorem repeat0 {n : Nt} {k : Nat} (h : checkF n = 0) (hk : k < n.q.length) (hl : n.q.length ≠ 4096) : repeatF n k = (⟨n.q ++ [pkAt n k], n.a⟩, 0) := by
  simp [repeatF, ask0 h hk, send0 h (pk0 h hk).2 hl]
theorem without_app {n : Nt} {p : Pk} {k : Nat} (hk : k < n.q.length) : withoutF ⟨n.q ++ [p], n.a⟩ k = ⟨(withoutF n k).q ++ [p], n.a⟩ := by
  simp only [withoutF]
  rw [List.take_append_of_le_length (by omega), List.drop_append_of_le_length (by omega), List.append_assoc]

/-! ### Losing -/
theorem lost_calls (Γ : Nat → Option (List AV)) (n : Nt) (at' : Nat) (h : AH) (hat : at' ≤ 18446744073709551615) (hq : n.q.length ≤ 9223372036854775807) (ha : n.a.length ≤ 9223372036854775807) :
    ACalls Try.prog Γ 8 [encN n, .int .u64 at'] h fun v h' => h' = h ∧ v = .bool true := by
  refine ACalls.drop ?_
  refine acalls_code (rs := [.tmp 4]) Try.func8 rfl rfl rfl rfl Ty.mixed (by kernel_rfl) ?_
  simp (disch := omega) only [go_sem, bne_self_eq_false, beq_self_eq_true, true_and, and_true, decide_true, decide_false, wrap_i64, ↓reduceIte, Nat.reduceAdd, Nat.reduceSub, Nat.reduceMul, Nat.reduceEqDiff, Nat.reduceLeDiff, Int.reduceAdd, Int.reduceSub, Int.reduceNeg, Int.reduceLT, Int.reduceLE, Int.reduceEq, Int.reduceToNat, Nat.reduceMod]
  refine ACalls.det (sane_calls Γ _) ?_
  simp (disch := omega) only [go_sem, bne_self_eq_false, beq_self_eq_true, true_and, and_true, decide_true, decide_false, wrap_i64, ↓reduceIte, Nat.reduceAdd, Nat.reduceSub, Nat.reduceMul, Nat.reduceEqDiff, Nat.reduceLeDiff, Int.reduceAdd, Int.reduceSub, Int.reduceNeg, Int.reduceLT, Int.reduceLE, Int.reduceEq, Int.reduceToNat, Nat.reduceMod]
  refine ACalls.det (few_calls Γ n _) ?_
  simp (disch := omega) only [go_sem, bne_self_eq_false, beq_self_eq_true, true_and, and_true, decide_true, decide_false, wrap_i64, ↓reduceIte, Nat.reduceAdd, Nat.reduceSub, Nat.reduceMul, Nat.reduceEqDiff, Nat.reduceLeDiff, Int.reduceAdd, Int.reduceSub, Int.reduceNeg, Int.reduceLT, Int.reduceLE, Int.reduceEq, Int.reduceToNat, Nat.reduceMod]
  refine aBr.intro (fun hf => ?_) (fun hf => ?_) <;> simp (disch := omega) only [go_sem, bne_self_eq_false, beq_self_eq_true, true_and, and_true, decide_true, decide_false, wrap_i64, ↓reduceIte, Nat.reduceAdd, Nat.reduceSub, Nat.reduceMul, Nat.reduceEqDiff, Nat.reduceLeDiff, Int.reduceAdd, Int.reduceSub, Int.reduceNeg, Int.reduceLT, Int.reduceLE, Int.reduceEq, Int.reduceToNat, Nat.reduceMod]
  refine ACalls.det (check_calls Γ n _ hq ha) ?_
  simp (disch := omega) only [go_sem, bne_self_eq_false, beq_self_eq_true, true_and, and_true, decide_true, decide_false, wrap_i64, ↓reduceIte, Nat.reduceAdd, Nat.reduceSub, Nat.reduceMul, Nat.reduceEqDiff, Nat.reduceLeDiff, Int.reduceAdd, Int.reduceSub, Int.reduceNeg, Int.reduceLT, Int.reduceLE, Int.reduceEq, Int.reduceToNat, Nat.reduceMod]
  refine aIf.intro (fun hc => ?_) (fun hc => ?_) <;> simp (disch := omega) only [go_sem, bne_self_eq_false, beq_self_eq_true, true_and, and_true, decide_true, decide_false, wrap_i64, ↓reduceIte, Nat.reduceAdd, Nat.reduceSub, Nat.reduceMul, Nat.reduceEqDiff, Nat.reduceLeDiff, Int.reduceAdd, Int.reduceSub, Int.reduceNeg, Int.reduceLT, Int.reduceLE, Int.reduceEq, Int.reduceToNat, Nat.reduceMod]
  rotate_left
  simp (disch := omega) only [go_sem, bne_self_eq_false, beq_self_eq_true, true_and, and_true, decide_true, decide_false, wrap_i64, ↓reduceIte, Nat.reduceAdd, Nat.reduceSub, Nat.reduceMul, Nat.reduceEqDiff, Nat.reduceLeDiff, Int.reduceAdd, Int.reduceSub, Int.reduceNeg, Int.reduceLT, Int.reduceLE, Int.reduceEq, Int.reduceToNat, Nat.reduceMod, encN]
  refine aIf.intro (fun hz => ?_) (fun hz => ?_) <;> simp (disch := omega) only [go_sem, bne_self_eq_false, beq_self_eq_true, true_and, and_true, decide_true, decide_false, wrap_i64, ↓reduceIte, Nat.reduceAdd, Nat.reduceSub, Nat.reduceMul, Nat.reduceEqDiff, Nat.reduceLeDiff, Int.reduceAdd, Int.reduceSub, Int.reduceNeg, Int.reduceLT, Int.reduceLE, Int.reduceEq, Int.reduceToNat, Nat.reduceMod]
  have hfew : n.q.length ≤ 40 ∧ n.a.length ≤ 40 := by simp at hf; omega
  have hw : IntKind.u64.wrap (n.q.length : Int) = n.q.length := IntWalk.u64_in _ ⟨by omega, by omega⟩
  have hlt : at' % n.q.length < n.q.length := Nat.mod_lt _ (by omega)
  obtain ⟨k, hk⟩ : ∃ k, k = at' % n.q.length := ⟨_, rfl⟩
  have hi : IntKind.i64.wrap ((at' : Int).tmod (n.q.length : Int)) = (k : Int) := by
    rw [← Int.ofNat_tmod, ← hk]; exact IntWalk.i64_in _ ⟨by omega, by omega⟩
  rw [← hk] at hlt
  rw [hw, hi]
  refine ⟨by omega, ?_⟩
  have hp := pk0 hc hlt
  obtain ⟨p, hpe⟩ : ∃ p, p = pkAt n k := ⟨_, rfl⟩
  rw [← hpe] at hp
  have hl40 : n.q.length ≠ 4096 := by omega
  have hca := check_app hc hp.2 hl40
  have hcw : checkF (withoutF n k) = 0 := check_without hc
  have hwl := without_len hlt
  refine ACalls.det ((deliver_calls Γ n k _ hq ha).args rfl) ?_
  rw [deliver0 hc hlt]
  simp (disch := omega) only [go_sem, bne_self_eq_false, beq_self_eq_true, true_and, and_true, decide_true, decide_false, wrap_i64, ↓reduceIte, Nat.reduceAdd, Nat.reduceSub, Nat.reduceMul, Nat.reduceEqDiff, Nat.reduceLeDiff, Int.reduceAdd, Int.reduceSub, Int.reduceNeg, Int.reduceLT, Int.reduceLE, Int.reduceEq, Int.reduceToNat, Nat.reduceMod, encD]
  refine ACalls.det ((lose_calls Γ n k _ hq ha).args rfl) ?_
  rw [lose0 hc hlt]
  simp (disch := omega) only [go_sem, bne_self_eq_false, beq_self_eq_true, true_and, and_true, decide_true, decide_false, wrap_i64, ↓reduceIte, Nat.reduceAdd, Nat.reduceSub, Nat.reduceMul, Nat.reduceEqDiff, Nat.reduceLeDiff, Int.reduceAdd, Int.reduceSub, Int.reduceNeg, Int.reduceLT, Int.reduceLE, Int.reduceEq, Int.reduceToNat, Nat.reduceMod, encS]
  refine ACalls.det ((repeat_calls Γ n k _ hq ha).args rfl) ?_
  rw [repeat0 hc hlt hl40, ← hpe]
  simp (disch := omega) only [go_sem, bne_self_eq_false, beq_self_eq_true, true_and, and_true, decide_true, decide_false, wrap_i64, ↓reduceIte, Nat.reduceAdd, Nat.reduceSub, Nat.reduceMul, Nat.reduceEqDiff, Nat.reduceLeDiff, Int.reduceAdd, Int.reduceSub, Int.reduceNeg, Int.reduceLT, Int.reduceLE, Int.reduceEq, Int.reduceToNat, Nat.reduceMod, encS]
  refine ACalls.det (lose_calls Γ ⟨n.q ++ [p], n.a⟩ k _ (by simp; omega) ha) ?_
  rw [lose0 hca (by simp; omega), without_app hlt]
  have he : n.q[k]? = some p := by rw [hp.1]; exact getD_mid n.q k hlt zK
  simp (disch := omega) only [go_sem, bne_self_eq_false, beq_self_eq_true, true_and, and_true, decide_true, decide_false, wrap_i64, ↓reduceIte, Nat.reduceAdd, Nat.reduceSub, Nat.reduceMul, Nat.reduceEqDiff, Nat.reduceLeDiff, Int.reduceAdd, Int.reduceSub, Int.reduceNeg, Int.reduceLT, Int.reduceLE, Int.reduceEq, Int.reduceToNat, Nat.reduceMod, encS, Int.toNat_natCast, List.getElem?_map, he, Option.map_some]
  refine aCallF.intro (fun _ => send_calls Γ (withoutF n k) p _ (by omega) ha) ?_
  rw [send0 hcw hp.2 (by omega)]
  simp (disch := omega) only [go_sem, bne_self_eq_false, beq_self_eq_true, true_and, and_true, decide_true, decide_false, wrap_i64, ↓reduceIte, Nat.reduceAdd, Nat.reduceSub, Nat.reduceMul, Nat.reduceEqDiff, Nat.reduceLeDiff, Int.reduceAdd, Int.reduceSub, Int.reduceNeg, Int.reduceLT, Int.reduceLE, Int.reduceEq, Int.reduceToNat, Nat.reduceMod, encS]
  refine ACalls.det (same_calls Γ _ _ _ (by omega) ha) ?_
  simp (disch := omega) only [go_sem, bne_self_eq_false, beq_self_eq_true, true_and, and_true, decide_true, decide_false, wrap_i64, ↓reduceIte, Nat.reduceAdd, Nat.reduceSub, Nat.reduceMul, Nat.reduceEqDiff, Nat.reduceLeDiff, Int.reduceAdd, Int.reduceSub, Int.reduceNeg, Int.reduceLT, Int.reduceLE, Int.reduceEq, Int.reduceToNat, Nat.reduceMod]
  refine ACalls.det (same_calls Γ _ _ _ (by simp; omega) ha) ?_
  simp (disch := omega) only [go_sem, bne_self_eq_false, beq_self_eq_true, true_and, and_true, decide_true, decide_false, wrap_i64, ↓reduceIte, Nat.reduceAdd, Nat.reduceSub, Nat.reduceMul, Nat.reduceEqDiff, Nat.reduceLeDiff, Int.reduceAdd, Int.reduceSub, Int.reduceNeg, Int.reduceLT, Int.reduceLE, Int.reduceEq, Int.reduceToNat, Nat.reduceMod, encN, List.length_append, List.length_cons, List.length_nil]
  refine aIf.pos rfl ?_
  simp (disch := omega) only [go_sem, bne_self_eq_false, beq_self_eq_true, true_and, and_true, decide_true, decide_false, wrap_i64, ↓reduceIte, Nat.reduceAdd, Nat.reduceSub, Nat.reduceMul, Nat.reduceEqDiff, Nat.reduceLeDiff, Int.reduceAdd, Int.reduceSub, Int.reduceNeg, Int.reduceLT, Int.reduceLE, Int.reduceEq, Int.reduceToNat, Nat.reduceMod, encN, List.length_append, List.length_cons, List.length_nil]
end Go.Proofs.Ytidmpembkkkhkaa
