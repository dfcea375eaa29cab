/- The statement on moves: what its code hands back. No conditions. -/
import Derived.Test.YtidmpembkkkhkaaLawR
set_option linter.unusedSimpArgs false
set_option linter.unusedVariables false
namespace Go.Proofs.Ytidmpembkkkhkaa
open Go Go.Proofs Go.Abs

def encI (x : Int) : AV := .int .i64 x
theorem encI_eq (x : Int) : encI x = .int .i64 x := rfl
theorem loose_I (x : Int) : loose (encI x) = encI x := by rw [encI, loose]
theorem rows_I (l : List Int) : RowsOK 1 (l.map encI) := fun r hr => by
  obtain ⟨b, _, rfl⟩ := List.mem_map.1 hr
  exact ⟨rfl, by simp [encI, AV.cells, AV.one]⟩
theorem encN_splice2 (p q : Nt) : splice (encN p).cells 0 (encN q).cells = (encN q).cells := rfl
attribute [go_sem] encN_splice2
structure AllS where
  i : Nat
  l : List Int
  own : Abs.Own
  j : AH
theorem cutF_len {n : Nt} {a b : Int} {on : Bool} (hq : n.q.length ≤ 9223372036854775807) : (cutF n a b on).1.q.length ≤ 9223372036854775807 ∧ (cutF n a b on).1.a.length ≤ 9223372036854775807 := by
  unfold cutF
  have := cutL_len n.a (betw a b) on
  split
  · split
    · simp; omega
    · simp [zN]
  · simp [zN]

theorem withoutF_len (n : Nt) (k : Nat) : (withoutF n k).q.length ≤ n.q.length + n.q.length := by simp [withoutF]; omega
theorem deliverF_len {n : Nt} {i : Int} (hq : n.q.length ≤ 40) (ha : n.a.length ≤ 40) : (deliverF n i).2.1.q.length ≤ 9223372036854775807 ∧ (deliverF n i).2.1.a.length ≤ 9223372036854775807 := by
  have := withoutF_len n i.toNat
  unfold deliverF
  split
  · exact ⟨by simp only; omega, by simp only [withoutF]; omega⟩
  · simp [zN]
theorem loseF_len {n : Nt} {i : Int} (hq : n.q.length ≤ 40) (ha : n.a.length ≤ 40) : (loseF n i).1.q.length ≤ 9223372036854775807 ∧ (loseF n i).1.a.length ≤ 9223372036854775807 := by
  have := withoutF_len n i.toNat
  unfold loseF
  split
  · exact ⟨by simp only; omega, by simp only [withoutF]; omega⟩
  · simp [zN]
theorem repeatF_len {n : Nt} {i : Int} (ha : n.a.length ≤ 40) : (repeatF n i).1.q.length ≤ 9223372036854775807 ∧ (repeatF n i).1.a.length ≤ 9223372036854775807 := by
  unfold repeatF
  split
  · have := sendF_len (n := n) (p := pkAt n i) (by omega)
    exact ⟨by omega, this.2⟩
  · simp [zN]

set_option maxRecDepth 100000 in
theorem move_calls (Γ : Nat → Option (List AV)) (n : Nt) (at' a b : Int) (on : Bool) (h : AH) (hq : n.q.length ≤ 9223372036854775807) (ha : n.a.length ≤ 9223372036854775807) :
    ACalls Try.prog Γ 6 [encN n, .int .i64 at', .int .i64 a, .int .i64 b, .bool on] h fun v h' => h' = h ∧ v = .bool true := by
  refine ACalls.drop ?_
  refine acalls_code (rs := [.tmp 10]) Try.func6 rfl rfl rfl rfl Ty.mixed (by kernel_rfl) ?_
  simp (disch := omega) only [go_sem, bne_self_eq_false, beq_self_eq_true, true_and, and_true, decide_true, decide_false, wrap_i64, ↓reduceIte, Nat.reduceAdd, Nat.reduceSub, Nat.reduceMul, Nat.reduceEqDiff, Nat.reduceLeDiff, Int.reduceAdd, Int.reduceSub, Int.reduceNeg, Int.reduceLT, Int.reduceLE, Int.reduceEq, Int.reduceToNat, Nat.reduceMod]
  refine ACalls.det (sane_calls Γ _) ?_
  simp (disch := omega) only [go_sem, bne_self_eq_false, beq_self_eq_true, true_and, and_true, decide_true, decide_false, wrap_i64, ↓reduceIte, Nat.reduceAdd, Nat.reduceSub, Nat.reduceMul, Nat.reduceEqDiff, Nat.reduceLeDiff, Int.reduceAdd, Int.reduceSub, Int.reduceNeg, Int.reduceLT, Int.reduceLE, Int.reduceEq, Int.reduceToNat, Nat.reduceMod]
  refine ACalls.det (few_calls Γ n _) ?_
  simp (disch := omega) only [go_sem, bne_self_eq_false, beq_self_eq_true, true_and, and_true, decide_true, decide_false, wrap_i64, ↓reduceIte, Nat.reduceAdd, Nat.reduceSub, Nat.reduceMul, Nat.reduceEqDiff, Nat.reduceLeDiff, Int.reduceAdd, Int.reduceSub, Int.reduceNeg, Int.reduceLT, Int.reduceLE, Int.reduceEq, Int.reduceToNat, Nat.reduceMod]
  refine aBr.intro (fun hf => ?_) (fun hf => ?_) <;> simp (disch := omega) only [go_sem, bne_self_eq_false, beq_self_eq_true, true_and, and_true, decide_true, decide_false, wrap_i64, ↓reduceIte, Nat.reduceAdd, Nat.reduceSub, Nat.reduceMul, Nat.reduceEqDiff, Nat.reduceLeDiff, Int.reduceAdd, Int.reduceSub, Int.reduceNeg, Int.reduceLT, Int.reduceLE, Int.reduceEq, Int.reduceToNat, Nat.reduceMod]
  have hfew : n.q.length ≤ 40 ∧ n.a.length ≤ 40 := by simp at hf; omega
  refine ACalls.det (cut_calls Γ n a b on _ hq ha) ?_
  simp (disch := omega) only [go_sem, bne_self_eq_false, beq_self_eq_true, true_and, and_true, decide_true, decide_false, wrap_i64, ↓reduceIte, Nat.reduceAdd, Nat.reduceSub, Nat.reduceMul, Nat.reduceEqDiff, Nat.reduceLeDiff, Int.reduceAdd, Int.reduceSub, Int.reduceNeg, Int.reduceLT, Int.reduceLE, Int.reduceEq, Int.reduceToNat, Nat.reduceMod, encS]
  refine ACalls.det (refcut_calls Γ n a b on _ hq ha) ?_
  simp (disch := omega) only [go_sem, bne_self_eq_false, beq_self_eq_true, true_and, and_true, decide_true, decide_false, wrap_i64, ↓reduceIte, Nat.reduceAdd, Nat.reduceSub, Nat.reduceMul, Nat.reduceEqDiff, Nat.reduceLeDiff, Int.reduceAdd, Int.reduceSub, Int.reduceNeg, Int.reduceLT, Int.reduceLE, Int.reduceEq, Int.reduceToNat, Nat.reduceMod, encS]
  obtain ⟨l1, l2⟩ := cutF_len (n := n) (a := a) (b := b) (on := on) hq
  refine ACalls.det (same_calls Γ _ _ _ l1 l2) ?_
  simp (disch := omega) only [go_sem, bne_self_eq_false, beq_self_eq_true, true_and, and_true, decide_true, decide_false, wrap_i64, ↓reduceIte, Nat.reduceAdd, Nat.reduceSub, Nat.reduceMul, Nat.reduceEqDiff, Nat.reduceLeDiff, Int.reduceAdd, Int.reduceSub, Int.reduceNeg, Int.reduceLT, Int.reduceLE, Int.reduceEq, Int.reduceToNat, Nat.reduceMod]
  obtain ⟨K, hK⟩ : ∃ K : AH, K = h ++ [.row (encN n).cells 25, .row (encN (cutF n a b on).1).cells 25, .row (encN (cutF n a b on).1).cells 25] := ⟨_, rfl⟩
  have Kn : ∀ j : AH, (K ++ j)[h.length]? = some (.row (encN n).cells 25) := by subst hK; simp
  have Klen : K.length = h.length + 3 := by subst hK; simp
  have Kj0 : ∀ j R : AH, (K ++ (j ++ R))[h.length + 3 + j.length]? = R[0]? := by intro j R; rw [← Klen, hget_add, hget_zero]
  have Kj : ∀ (j R : AH) (m : Nat), (K ++ (j ++ R))[h.length + 3 + (j.length + m)]? = R[m]? := by intro j R m; rw [← Klen, hget_add, hget_add]
  have Sj0 : ∀ (j R : AH) (o : AObj), (K ++ (j ++ R)).set (h.length + 3 + j.length) o = K ++ (j ++ R.set 0 o) := by intro j R o; rw [← Klen, hset_add, hset_zero]
  have Sj : ∀ (j R : AH) (m : Nat) (o : AObj), (K ++ (j ++ R)).set (h.length + 3 + (j.length + m)) o = K ++ (j ++ R.set m o) := by intro j R m o; rw [← Klen, hset_add, hset_add]
  rw [← hK]
  refine awp_loopS (α := AllS) [16, 15, 5] (fun s => [(16, .int .i64 s.i), (15, .sl (s.l.map encI) s.own), (5, .ptr (some (h.length, 0)))])
    (fun s => K ++ s.j) (fun s => s.i ≤ 3 ∧ OwnAt K s.j s.l.length s.own ∧ s.l.length = s.i + 1) (fun s => 3 - s.i) ⟨0, [at'], .full, []⟩ ?_ (by simp) ⟨by simp, trivial, rfl⟩ Ty.mixed (by kernel_rfl) ?_
  · simp (disch := omega) only [go_sem, bne_self_eq_false, beq_self_eq_true, true_and, and_true, decide_true, decide_false, wrap_i64, ↓reduceIte, Nat.reduceAdd, Nat.reduceSub, Nat.reduceMul, Nat.reduceEqDiff, Nat.reduceLeDiff, Int.reduceAdd, Int.reduceSub, Int.reduceNeg, Int.reduceLT, Int.reduceLE, Int.reduceEq, Int.reduceToNat, Nat.reduceMod, List.map_cons, List.map_nil, encI]
  rintro ⟨i, l, own, j⟩ ⟨hi, ho, hl⟩
  simp only at hi ho hl ⊢
  simp (disch := omega) only [go_sem, bne_self_eq_false, beq_self_eq_true, true_and, and_true, decide_true, decide_false, wrap_i64, ↓reduceIte, Nat.reduceAdd, Nat.reduceSub, Nat.reduceMul, Nat.reduceEqDiff, Nat.reduceLeDiff, Int.reduceAdd, Int.reduceSub, Int.reduceNeg, Int.reduceLT, Int.reduceLE, Int.reduceEq, Int.reduceToNat, Nat.reduceMod, Kn, encN]
  refine aIf.intro (fun h1 => ?_) (fun h1 => ?_) <;> simp (disch := omega) only [go_sem, bne_self_eq_false, beq_self_eq_true, true_and, and_true, decide_true, decide_false, wrap_i64, ↓reduceIte, Nat.reduceAdd, Nat.reduceSub, Nat.reduceMul, Nat.reduceEqDiff, Nat.reduceLeDiff, Int.reduceAdd, Int.reduceSub, Int.reduceNeg, Int.reduceLT, Int.reduceLE, Int.reduceEq, Int.reduceToNat, Nat.reduceMod]
  · refine aIf.intro (fun h2 => ?_) (fun h2 => ?_) <;> simp (disch := omega) only [go_sem, bne_self_eq_false, beq_self_eq_true, true_and, and_true, decide_true, decide_false, wrap_i64, ↓reduceIte, Nat.reduceAdd, Nat.reduceSub, Nat.reduceMul, Nat.reduceEqDiff, Nat.reduceLeDiff, Int.reduceAdd, Int.reduceSub, Int.reduceNeg, Int.reduceLT, Int.reduceLE, Int.reduceEq, Int.reduceToNat, Nat.reduceMod]
    · refine aAp_sl (by rw [List.length_map]; exact ho) (rows_I _) (rows_I [(i : Int)]) (by simp; omega) (by simp; omega) fun j' own' ho' hg => ?_
      simp (disch := omega) only [go_sem, bne_self_eq_false, beq_self_eq_true, true_and, and_true, decide_true, decide_false, wrap_i64, ↓reduceIte, Nat.reduceAdd, Nat.reduceSub, Nat.reduceMul, Nat.reduceEqDiff, Nat.reduceLeDiff, Int.reduceAdd, Int.reduceSub, Int.reduceNeg, Int.reduceLT, Int.reduceLE, Int.reduceEq, Int.reduceToNat, Nat.reduceMod]
      refine roundS_next ⟨i + 1, l ++ [(i : Int)], own', j'⟩ (by simp only; omega) ⟨by simp only; omega, by simpa using ho', by simp; omega⟩ ?_ rfl
      simp (disch := omega) only [go_sem, bne_self_eq_false, beq_self_eq_true, true_and, and_true, decide_true, decide_false, wrap_i64, ↓reduceIte, Nat.reduceAdd, Nat.reduceSub, Nat.reduceMul, Nat.reduceEqDiff, Nat.reduceLeDiff, Int.reduceAdd, Int.reduceSub, Int.reduceNeg, Int.reduceLT, Int.reduceLE, Int.reduceEq, Int.reduceToNat, Nat.reduceMod, List.map_append, List.map_cons, List.map_nil, encI]
    · skip
      refine AWP.keep [15, 5] (aCode_ok Ty.mixed _ _ _ _ (by kernel_rfl) ?_)
      simp (disch := omega) only [go_sem, bne_self_eq_false, beq_self_eq_true, true_and, and_true, decide_true, decide_false, wrap_i64, ↓reduceIte, Nat.reduceAdd, Nat.reduceSub, Nat.reduceMul, Nat.reduceEqDiff, Nat.reduceLeDiff, Int.reduceAdd, Int.reduceSub, Int.reduceNeg, Int.reduceLT, Int.reduceLE, Int.reduceEq, Int.reduceToNat, Nat.reduceMod, Kn, encN]
      refine awp_loopL (β := AH) l [74, 73, 72, 5] (fun don _ => [(74, .int .i64 don.length), (73, .int .i64 l.length), (72, .sl (l.map encI) own), (5, .ptr (some (h.length, 0)))])
        (fun j => K ++ j) (fun _ _ _ => True) j ?_ rfl trivial Ty.mixed (by kernel_rfl) ?_ ?_
      · simp (disch := omega) only [go_sem, bne_self_eq_false, beq_self_eq_true, true_and, and_true, decide_true, decide_false, wrap_i64, ↓reduceIte, Nat.reduceAdd, Nat.reduceSub, Nat.reduceMul, Nat.reduceEqDiff, Nat.reduceLeDiff, Int.reduceAdd, Int.reduceSub, Int.reduceNeg, Int.reduceLT, Int.reduceLE, Int.reduceEq, Int.reduceToNat, Nat.reduceMod, List.length_map]
      · rintro don x r j rfl -
        have hl3 : don.length + 1 + r.length ≤ 4 := by simp at hl; omega
        simp (disch := omega) only [go_sem, bne_self_eq_false, beq_self_eq_true, true_and, and_true, decide_true, decide_false, wrap_i64, ↓reduceIte, Nat.reduceAdd, Nat.reduceSub, Nat.reduceMul, Nat.reduceEqDiff, Nat.reduceLeDiff, Int.reduceAdd, Int.reduceSub, Int.reduceNeg, Int.reduceLT, Int.reduceLE, Int.reduceEq, Int.reduceToNat, Nat.reduceMod, List.map_append, List.map_cons, List.length_append]
        refine aIf.pos (by omega) ?_
        simp (disch := omega) only [go_sem, bne_self_eq_false, beq_self_eq_true, true_and, and_true, decide_true, decide_false, wrap_i64, ↓reduceIte, Nat.reduceAdd, Nat.reduceSub, Nat.reduceMul, Nat.reduceEqDiff, Nat.reduceLeDiff, Int.reduceAdd, Int.reduceSub, Int.reduceNeg, Int.reduceLT, Int.reduceLE, Int.reduceEq, Int.reduceToNat, Nat.reduceMod, Kn, encI]
        refine ACalls.det (deliver_calls Γ n x _ hq ha) ?_
        simp (disch := omega) only [go_sem, bne_self_eq_false, beq_self_eq_true, true_and, and_true, decide_true, decide_false, wrap_i64, ↓reduceIte, Nat.reduceAdd, Nat.reduceSub, Nat.reduceMul, Nat.reduceEqDiff, Nat.reduceLeDiff, Int.reduceAdd, Int.reduceSub, Int.reduceNeg, Int.reduceLT, Int.reduceLE, Int.reduceEq, Int.reduceToNat, Nat.reduceMod, Kn, Klen, Kj0, Kj, Sj0, Sj, encD, encS, List.length_append]
        refine ACalls.det (refdeliver_calls Γ n x _ hq ha) ?_
        simp (disch := omega) only [go_sem, bne_self_eq_false, beq_self_eq_true, true_and, and_true, decide_true, decide_false, wrap_i64, ↓reduceIte, Nat.reduceAdd, Nat.reduceSub, Nat.reduceMul, Nat.reduceEqDiff, Nat.reduceLeDiff, Int.reduceAdd, Int.reduceSub, Int.reduceNeg, Int.reduceLT, Int.reduceLE, Int.reduceEq, Int.reduceToNat, Nat.reduceMod, Kn, Klen, Kj0, Kj, Sj0, Sj, encD, encS, List.length_append]
        obtain ⟨m1, m2⟩ := deliverF_len (i := x) hfew.1 hfew.2
        obtain ⟨m3, m4⟩ := loseF_len (i := x) hfew.1 hfew.2
        obtain ⟨m5, m6⟩ := repeatF_len (n := n) (i := x) hfew.2
        refine ACalls.det (samepacket_calls Γ _ _ _) ?_
        simp (disch := omega) only [go_sem, bne_self_eq_false, beq_self_eq_true, true_and, and_true, decide_true, decide_false, wrap_i64, ↓reduceIte, Nat.reduceAdd, Nat.reduceSub, Nat.reduceMul, Nat.reduceEqDiff, Nat.reduceLeDiff, Int.reduceAdd, Int.reduceSub, Int.reduceNeg, Int.reduceLT, Int.reduceLE, Int.reduceEq, Int.reduceToNat, Nat.reduceMod, Kn, Klen, Kj0, Kj, Sj0, Sj, encD, encS, List.length_append]
        refine ACalls.det (same_calls Γ _ _ _ m1 m2) ?_
        simp (disch := omega) only [go_sem, bne_self_eq_false, beq_self_eq_true, true_and, and_true, decide_true, decide_false, wrap_i64, ↓reduceIte, Nat.reduceAdd, Nat.reduceSub, Nat.reduceMul, Nat.reduceEqDiff, Nat.reduceLeDiff, Int.reduceAdd, Int.reduceSub, Int.reduceNeg, Int.reduceLT, Int.reduceLE, Int.reduceEq, Int.reduceToNat, Nat.reduceMod, Kn, Klen, Kj0, Kj, Sj0, Sj, encD, encS, List.length_append]
        refine ACalls.det (lose_calls Γ n x _ hq ha) ?_
        simp (disch := omega) only [go_sem, bne_self_eq_false, beq_self_eq_true, true_and, and_true, decide_true, decide_false, wrap_i64, ↓reduceIte, Nat.reduceAdd, Nat.reduceSub, Nat.reduceMul, Nat.reduceEqDiff, Nat.reduceLeDiff, Int.reduceAdd, Int.reduceSub, Int.reduceNeg, Int.reduceLT, Int.reduceLE, Int.reduceEq, Int.reduceToNat, Nat.reduceMod, Kn, Klen, Kj0, Kj, Sj0, Sj, encD, encS, List.length_append]
        refine ACalls.det (reflose_calls Γ n x _ hq ha) ?_
        simp (disch := omega) only [go_sem, bne_self_eq_false, beq_self_eq_true, true_and, and_true, decide_true, decide_false, wrap_i64, ↓reduceIte, Nat.reduceAdd, Nat.reduceSub, Nat.reduceMul, Nat.reduceEqDiff, Nat.reduceLeDiff, Int.reduceAdd, Int.reduceSub, Int.reduceNeg, Int.reduceLT, Int.reduceLE, Int.reduceEq, Int.reduceToNat, Nat.reduceMod, Kn, Klen, Kj0, Kj, Sj0, Sj, encD, encS, List.length_append]
        refine ACalls.det (same_calls Γ _ _ _ m3 m4) ?_
        simp (disch := omega) only [go_sem, bne_self_eq_false, beq_self_eq_true, true_and, and_true, decide_true, decide_false, wrap_i64, ↓reduceIte, Nat.reduceAdd, Nat.reduceSub, Nat.reduceMul, Nat.reduceEqDiff, Nat.reduceLeDiff, Int.reduceAdd, Int.reduceSub, Int.reduceNeg, Int.reduceLT, Int.reduceLE, Int.reduceEq, Int.reduceToNat, Nat.reduceMod, Kn, Klen, Kj0, Kj, Sj0, Sj, encD, encS, List.length_append]
        refine ACalls.det (repeat_calls Γ n x _ hq ha) ?_
        simp (disch := omega) only [go_sem, bne_self_eq_false, beq_self_eq_true, true_and, and_true, decide_true, decide_false, wrap_i64, ↓reduceIte, Nat.reduceAdd, Nat.reduceSub, Nat.reduceMul, Nat.reduceEqDiff, Nat.reduceLeDiff, Int.reduceAdd, Int.reduceSub, Int.reduceNeg, Int.reduceLT, Int.reduceLE, Int.reduceEq, Int.reduceToNat, Nat.reduceMod, Kn, Klen, Kj0, Kj, Sj0, Sj, encD, encS, List.length_append]
        refine ACalls.det (refrepeat_calls Γ n x _ hq ha) ?_
        simp (disch := omega) only [go_sem, bne_self_eq_false, beq_self_eq_true, true_and, and_true, decide_true, decide_false, wrap_i64, ↓reduceIte, Nat.reduceAdd, Nat.reduceSub, Nat.reduceMul, Nat.reduceEqDiff, Nat.reduceLeDiff, Int.reduceAdd, Int.reduceSub, Int.reduceNeg, Int.reduceLT, Int.reduceLE, Int.reduceEq, Int.reduceToNat, Nat.reduceMod, Kn, Klen, Kj0, Kj, Sj0, Sj, encD, encS, List.length_append]
        refine ACalls.det (same_calls Γ _ _ _ m5 m6) ?_
        simp (disch := omega) only [go_sem, bne_self_eq_false, beq_self_eq_true, true_and, and_true, decide_true, decide_false, wrap_i64, ↓reduceIte, Nat.reduceAdd, Nat.reduceSub, Nat.reduceMul, Nat.reduceEqDiff, Nat.reduceLeDiff, Int.reduceAdd, Int.reduceSub, Int.reduceNeg, Int.reduceLT, Int.reduceLE, Int.reduceEq, Int.reduceToNat, Nat.reduceMod, Kn, Klen, Kj0, Kj, Sj0, Sj, encD, encS, List.length_append]
        refine roundL_next _ trivial ?_ rfl
        simp (disch := omega) only [go_sem, bne_self_eq_false, beq_self_eq_true, true_and, and_true, decide_true, decide_false, wrap_i64, ↓reduceIte, Nat.reduceAdd, Nat.reduceSub, Nat.reduceMul, Nat.reduceEqDiff, Nat.reduceLeDiff, Int.reduceAdd, Int.reduceSub, Int.reduceNeg, Int.reduceLT, Int.reduceLE, Int.reduceEq, Int.reduceToNat, Nat.reduceMod, List.length_append, List.map_append, List.map_cons, encI]
      · intro j _
        simp (disch := omega) only [go_sem, bne_self_eq_false, beq_self_eq_true, true_and, and_true, decide_true, decide_false, wrap_i64, ↓reduceIte, Nat.reduceAdd, Nat.reduceSub, Nat.reduceMul, Nat.reduceEqDiff, Nat.reduceLeDiff, Int.reduceAdd, Int.reduceSub, Int.reduceNeg, Int.reduceLT, Int.reduceLE, Int.reduceEq, Int.reduceToNat, Nat.reduceMod]
        refine AWP.keep [5] (aCode_ok Ty.mixed _ _ _ _ (by kernel_rfl) ?_)
        simp (disch := omega) only [go_sem, bne_self_eq_false, beq_self_eq_true, true_and, and_true, decide_true, decide_false, wrap_i64, ↓reduceIte, Nat.reduceAdd, Nat.reduceSub, Nat.reduceMul, Nat.reduceEqDiff, Nat.reduceLeDiff, Int.reduceAdd, Int.reduceSub, Int.reduceNeg, Int.reduceLT, Int.reduceLE, Int.reduceEq, Int.reduceToNat, Nat.reduceMod]
        exact ⟨_, by rw [hK, List.append_assoc]⟩
  · skip
    refine AWP.keep [15, 5] (aCode_ok Ty.mixed _ _ _ _ (by kernel_rfl) ?_)
    simp (disch := omega) only [go_sem, bne_self_eq_false, beq_self_eq_true, true_and, and_true, decide_true, decide_false, wrap_i64, ↓reduceIte, Nat.reduceAdd, Nat.reduceSub, Nat.reduceMul, Nat.reduceEqDiff, Nat.reduceLeDiff, Int.reduceAdd, Int.reduceSub, Int.reduceNeg, Int.reduceLT, Int.reduceLE, Int.reduceEq, Int.reduceToNat, Nat.reduceMod, Kn, encN]
    refine awp_loopL (β := AH) l [74, 73, 72, 5] (fun don _ => [(74, .int .i64 don.length), (73, .int .i64 l.length), (72, .sl (l.map encI) own), (5, .ptr (some (h.length, 0)))])
      (fun j => K ++ j) (fun _ _ _ => True) j ?_ rfl trivial Ty.mixed (by kernel_rfl) ?_ ?_
    · simp (disch := omega) only [go_sem, bne_self_eq_false, beq_self_eq_true, true_and, and_true, decide_true, decide_false, wrap_i64, ↓reduceIte, Nat.reduceAdd, Nat.reduceSub, Nat.reduceMul, Nat.reduceEqDiff, Nat.reduceLeDiff, Int.reduceAdd, Int.reduceSub, Int.reduceNeg, Int.reduceLT, Int.reduceLE, Int.reduceEq, Int.reduceToNat, Nat.reduceMod, List.length_map]
    · rintro don x r j rfl -
      have hl3 : don.length + 1 + r.length ≤ 4 := by simp at hl; omega
      simp (disch := omega) only [go_sem, bne_self_eq_false, beq_self_eq_true, true_and, and_true, decide_true, decide_false, wrap_i64, ↓reduceIte, Nat.reduceAdd, Nat.reduceSub, Nat.reduceMul, Nat.reduceEqDiff, Nat.reduceLeDiff, Int.reduceAdd, Int.reduceSub, Int.reduceNeg, Int.reduceLT, Int.reduceLE, Int.reduceEq, Int.reduceToNat, Nat.reduceMod, List.map_append, List.map_cons, List.length_append]
      refine aIf.pos (by omega) ?_
      simp (disch := omega) only [go_sem, bne_self_eq_false, beq_self_eq_true, true_and, and_true, decide_true, decide_false, wrap_i64, ↓reduceIte, Nat.reduceAdd, Nat.reduceSub, Nat.reduceMul, Nat.reduceEqDiff, Nat.reduceLeDiff, Int.reduceAdd, Int.reduceSub, Int.reduceNeg, Int.reduceLT, Int.reduceLE, Int.reduceEq, Int.reduceToNat, Nat.reduceMod, Kn, encI]
      refine ACalls.det (deliver_calls Γ n x _ hq ha) ?_
      simp (disch := omega) only [go_sem, bne_self_eq_false, beq_self_eq_true, true_and, and_true, decide_true, decide_false, wrap_i64, ↓reduceIte, Nat.reduceAdd, Nat.reduceSub, Nat.reduceMul, Nat.reduceEqDiff, Nat.reduceLeDiff, Int.reduceAdd, Int.reduceSub, Int.reduceNeg, Int.reduceLT, Int.reduceLE, Int.reduceEq, Int.reduceToNat, Nat.reduceMod, Kn, Klen, Kj0, Kj, Sj0, Sj, encD, encS, List.length_append]
      refine ACalls.det (refdeliver_calls Γ n x _ hq ha) ?_
      simp (disch := omega) only [go_sem, bne_self_eq_false, beq_self_eq_true, true_and, and_true, decide_true, decide_false, wrap_i64, ↓reduceIte, Nat.reduceAdd, Nat.reduceSub, Nat.reduceMul, Nat.reduceEqDiff, Nat.reduceLeDiff, Int.reduceAdd, Int.reduceSub, Int.reduceNeg, Int.reduceLT, Int.reduceLE, Int.reduceEq, Int.reduceToNat, Nat.reduceMod, Kn, Klen, Kj0, Kj, Sj0, Sj, encD, encS, List.length_append]
      obtain ⟨m1, m2⟩ := deliverF_len (i := x) hfew.1 hfew.2
      obtain ⟨m3, m4⟩ := loseF_len (i := x) hfew.1 hfew.2
      obtain ⟨m5, m6⟩ := repeatF_len (n := n) (i := x) hfew.2
      refine ACalls.det (samepacket_calls Γ _ _ _) ?_
      simp (disch := omega) only [go_sem, bne_self_eq_false, beq_self_eq_true, true_and, and_true, decide_true, decide_false, wrap_i64, ↓reduceIte, Nat.reduceAdd, Nat.reduceSub, Nat.reduceMul, Nat.reduceEqDiff, Nat.reduceLeDiff, Int.reduceAdd, Int.reduceSub, Int.reduceNeg, Int.reduceLT, Int.reduceLE, Int.reduceEq, Int.reduceToNat, Nat.reduceMod, Kn, Klen, Kj0, Kj, Sj0, Sj, encD, encS, List.length_append]
      refine ACalls.det (same_calls Γ _ _ _ m1 m2) ?_
      simp (disch := omega) only [go_sem, bne_self_eq_false, beq_self_eq_true, true_and, and_true, decide_true, decide_false, wrap_i64, ↓reduceIte, Nat.reduceAdd, Nat.reduceSub, Nat.reduceMul, Nat.reduceEqDiff, Nat.reduceLeDiff, Int.reduceAdd, Int.reduceSub, Int.reduceNeg, Int.reduceLT, Int.reduceLE, Int.reduceEq, Int.reduceToNat, Nat.reduceMod, Kn, Klen, Kj0, Kj, Sj0, Sj, encD, encS, List.length_append]
      refine ACalls.det (lose_calls Γ n x _ hq ha) ?_
      simp (disch := omega) only [go_sem, bne_self_eq_false, beq_self_eq_true, true_and, and_true, decide_true, decide_false, wrap_i64, ↓reduceIte, Nat.reduceAdd, Nat.reduceSub, Nat.reduceMul, Nat.reduceEqDiff, Nat.reduceLeDiff, Int.reduceAdd, Int.reduceSub, Int.reduceNeg, Int.reduceLT, Int.reduceLE, Int.reduceEq, Int.reduceToNat, Nat.reduceMod, Kn, Klen, Kj0, Kj, Sj0, Sj, encD, encS, List.length_append]
      refine ACalls.det (reflose_calls Γ n x _ hq ha) ?_
      simp (disch := omega) only [go_sem, bne_self_eq_false, beq_self_eq_true, true_and, and_true, decide_true, decide_false, wrap_i64, ↓reduceIte, Nat.reduceAdd, Nat.reduceSub, Nat.reduceMul, Nat.reduceEqDiff, Nat.reduceLeDiff, Int.reduceAdd, Int.reduceSub, Int.reduceNeg, Int.reduceLT, Int.reduceLE, Int.reduceEq, Int.reduceToNat, Nat.reduceMod, Kn, Klen, Kj0, Kj, Sj0, Sj, encD, encS, List.length_append]
      refine ACalls.det (same_calls Γ _ _ _ m3 m4) ?_
      simp (disch := omega) only [go_sem, bne_self_eq_false, beq_self_eq_true, true_and, and_true, decide_true, decide_false, wrap_i64, ↓reduceIte, Nat.reduceAdd, Nat.reduceSub, Nat.reduceMul, Nat.reduceEqDiff, Nat.reduceLeDiff, Int.reduceAdd, Int.reduceSub, Int.reduceNeg, Int.reduceLT, Int.reduceLE, Int.reduceEq, Int.reduceToNat, Nat.reduceMod, Kn, Klen, Kj0, Kj, Sj0, Sj, encD, encS, List.length_append]
      refine ACalls.det (repeat_calls Γ n x _ hq ha) ?_
      simp (disch := omega) only [go_sem, bne_self_eq_false, beq_self_eq_true, true_and, and_true, decide_true, decide_false, wrap_i64, ↓reduceIte, Nat.reduceAdd, Nat.reduceSub, Nat.reduceMul, Nat.reduceEqDiff, Nat.reduceLeDiff, Int.reduceAdd, Int.reduceSub, Int.reduceNeg, Int.reduceLT, Int.reduceLE, Int.reduceEq, Int.reduceToNat, Nat.reduceMod, Kn, Klen, Kj0, Kj, Sj0, Sj, encD, encS, List.length_append]
      refine ACalls.det (refrepeat_calls Γ n x _ hq ha) ?_
      simp (disch := omega) only [go_sem, bne_self_eq_false, beq_self_eq_true, true_and, and_true, decide_true, decide_false, wrap_i64, ↓reduceIte, Nat.reduceAdd, Nat.reduceSub, Nat.reduceMul, Nat.reduceEqDiff, Nat.reduceLeDiff, Int.reduceAdd, Int.reduceSub, Int.reduceNeg, Int.reduceLT, Int.reduceLE, Int.reduceEq, Int.reduceToNat, Nat.reduceMod, Kn, Klen, Kj0, Kj, Sj0, Sj, encD, encS, List.length_append]
      refine ACalls.det (same_calls Γ _ _ _ m5 m6) ?_
      simp (disch := omega) only [go_sem, bne_self_eq_false, beq_self_eq_true, true_and, and_true, decide_true, decide_false, wrap_i64, ↓reduceIte, Nat.reduceAdd, Nat.reduceSub, Nat.reduceMul, Nat.reduceEqDiff, Nat.reduceLeDiff, Int.reduceAdd, Int.reduceSub, Int.reduceNeg, Int.reduceLT, Int.reduceLE, Int.reduceEq, Int.reduceToNat, Nat.reduceMod, Kn, Klen, Kj0, Kj, Sj0, Sj, encD, encS, List.length_append]
      refine roundL_next _ trivial ?_ rfl
      simp (disch := omega) only [go_sem, bne_self_eq_false, beq_self_eq_true, true_and, and_true, decide_true, decide_false, wrap_i64, ↓reduceIte, Nat.reduceAdd, Nat.reduceSub, Nat.reduceMul, Nat.reduceEqDiff, Nat.reduceLeDiff, Int.reduceAdd, Int.reduceSub, Int.reduceNeg, Int.reduceLT, Int.reduceLE, Int.reduceEq, Int.reduceToNat, Nat.reduceMod, List.length_append, List.map_append, List.map_cons, encI]
    · intro j _
      simp (disch := omega) only [go_sem, bne_self_eq_false, beq_self_eq_true, true_and, and_true, decide_true, decide_false, wrap_i64, ↓reduceIte, Nat.reduceAdd, Nat.reduceSub, Nat.reduceMul, Nat.reduceEqDiff, Nat.reduceLeDiff, Int.reduceAdd, Int.reduceSub, Int.reduceNeg, Int.reduceLT, Int.reduceLE, Int.reduceEq, Int.reduceToNat, Nat.reduceMod]
      refine AWP.keep [5] (aCode_ok Ty.mixed _ _ _ _ (by kernel_rfl) ?_)
      simp (disch := omega) only [go_sem, bne_self_eq_false, beq_self_eq_true, true_and, and_true, decide_true, decide_false, wrap_i64, ↓reduceIte, Nat.reduceAdd, Nat.reduceSub, Nat.reduceMul, Nat.reduceEqDiff, Nat.reduceLeDiff, Int.reduceAdd, Int.reduceSub, Int.reduceNeg, Int.reduceLT, Int.reduceLE, Int.reduceEq, Int.reduceToNat, Nat.reduceMod]
      exact ⟨_, by rw [hK, List.append_assoc]⟩
end Go.Proofs.Ytidmpembkkkhkaa
