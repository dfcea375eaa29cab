/- All sets of some people. No conditions. -/
import Derived.Test.YtopiamdfnaejeaaRefD
set_option linter.unusedSimpArgs false
set_option linter.unusedVariables false
namespace Go.Proofs.Ytopiamdfnaejeaa
open Go Go.Proofs Go.Abs

def encII (l : List (List Int)) : List AV := l.map fun s => .sl (encI s) .free
theorem encII_app (a b : List (List Int)) : encII (a ++ b) = encII a ++ encII b := by simp [encII]
theorem encII_len (l : List (List Int)) : (encII l).length = l.length := by simp [encII]
theorem encII_snoc (a : List (List Int)) (s : List Int) : encII a ++ [.sl (encI s) .free] = encII (a ++ [s]) := by simp [encII]
theorem loose_II (l : List (List Int)) : looseL (encII l) = encII l := looseL_maps _ (fun s => by rw [loose, loose_I]) l
theorem rb_II (n : Nat) (l : List (List Int)) : RB n (.sl (encII l) .free) = True := eq_true (.sl' fun r hr => by
  obtain ⟨s, _, rfl⟩ := List.mem_map.1 hr
  exact of_eq_true (rb_I n s))
theorem rowsOK_II (l : List (List Int)) : RowsOK 1 (encII l) := RowsOK.map (f := fun s => AV.sl (encI s) .free) (fun s => ⟨rfl, fun c hc => by simp [AV.cells] at hc; subst hc; rfl⟩) l
attribute [go_sem] loose_II rb_II
theorem looseL_snoc (l : List (List Int)) (x : Int) (t : List Int) (o : Abs.Own) : looseL (encII l ++ [.sl (.int .i64 x :: encI t) o]) = encII (l ++ [x :: t]) := by
  rw [looseL_map, List.map_append, ← looseL_map, loose_II]
  simp only [List.map_cons, List.map_nil, loose, looseL, loose_I]
  simp [encII, encI]
def chooseF : List Int → Nat → List (List Int)
  | _, 0 => [[]]
  | [], _ + 1 => []
  | x :: r, k + 1 => (chooseF r k).map (x :: ·) ++ chooseF r (k + 1)
theorem choose_short : ∀ (l : List Int) (k : Nat), l.length < k → chooseF l k = []
  | _, 0, h => by omega
  | [], k + 1, _ => by simp [chooseF]
  | x :: r, k + 1, h => by simp [chooseF, choose_short r k (by simp at h; omega), choose_short r (k + 1) (by simp at h; omega)]
theorem choose_pow : ∀ (l : List Int) (k : Nat), (chooseF l k).length ≤ 2 ^ l.length
  | l, 0 => by
    have : 1 ≤ 2 ^ l.length := Nat.one_le_two_pow
    cases l <;> simp [chooseF] <;> omega
  | [], k + 1 => by simp [chooseF]
  | x :: r, k + 1 => by
    have h1 := choose_pow r k
    have h2 := choose_pow r (k + 1)
    simp only [chooseF, List.length_append, List.length_map, List.length_cons, Nat.pow_succ]; omega
theorem choose_mem : ∀ (l : List Int) (k : Nat) (s : List Int), s ∈ chooseF l k → s.length = k
  | l, 0, s, h => by cases l <;> simp [chooseF] at h <;> simp [h]
  | [], k + 1, s, h => by simp [chooseF] at h
  | x :: r, k + 1, s, h => by
    simp only [chooseF, List.mem_append, List.mem_map] at h
    rcases h with ⟨t, ht, rfl⟩ | h
    · simp [choose_mem r k t ht]
    · exact choose_mem r (k + 1) s h
structure ChS where
  don : List Int
  rest : List Int
  out : List (List Int)
  own : Abs.Own
  j : AH
structure ChT where
  out : List (List Int)
  own : Abs.Own
  j : AH
set_option maxRecDepth 100000 in
theorem choose_calls (Γ : Nat → Option (List AV)) : ∀ (k : Nat) (l : List Int) (h : AH), l.length ≤ 12 → k ≤ 12 →
    ACalls Try.prog Γ 82 [.sl (encI l) .free, .int .i64 k] h fun v h' => h' = h ∧ v = .sl (encII (chooseF l k)) .free
  | 0, l, h, hl, _ => by
    refine ACalls.dropL ?_
    refine acalls_code (rs := [.tmp 4]) Try.func82 rfl rfl rfl rfl Ty.mixed (by kernel_rfl) ?_
    simp (disch := omega) only [go_sem, bne_self_eq_false, beq_self_eq_true, true_and, and_true, decide_true, decide_false, wrap_i64, ↓reduceIte, Nat.reduceAdd, Nat.reduceSub, Nat.reduceMul, Nat.reduceEqDiff, Nat.reduceLeDiff, Int.reduceAdd, Int.reduceSub, Int.reduceNeg, Int.reduceLT, Int.reduceLE, Int.reduceEq, Int.reduceToNat, Nat.reduceMod]
    have : chooseF l 0 = [[]] := by cases l <;> rfl
    rw [this]
    refine ⟨of_eq_true (rb_II _ [[]]), rfl⟩
  | k + 1, l, h, hl, hk => by
    refine ACalls.dropL ?_
    refine acalls_code (rs := [.tmp 4]) Try.func82 rfl rfl rfl rfl Ty.mixed (by kernel_rfl) ?_
    simp (disch := omega) only [go_sem, bne_self_eq_false, beq_self_eq_true, true_and, and_true, decide_true, decide_false, wrap_i64, ↓reduceIte, Nat.reduceAdd, Nat.reduceSub, Nat.reduceMul, Nat.reduceEqDiff, Nat.reduceLeDiff, Int.reduceAdd, Int.reduceSub, Int.reduceNeg, Int.reduceLT, Int.reduceLE, Int.reduceEq, Int.reduceToNat, Nat.reduceMod]
    refine aIf.neg (by omega) ?_
    simp (disch := omega) only [go_sem, bne_self_eq_false, beq_self_eq_true, true_and, and_true, decide_true, decide_false, wrap_i64, ↓reduceIte, Nat.reduceAdd, Nat.reduceSub, Nat.reduceMul, Nat.reduceEqDiff, Nat.reduceLeDiff, Int.reduceAdd, Int.reduceSub, Int.reduceNeg, Int.reduceLT, Int.reduceLE, Int.reduceEq, Int.reduceToNat, Nat.reduceMod]
    refine awp_loopS (α := ChS) [0, 1, 5, 6] (fun s => [(0, .sl (encI l) .free), (1, .int .i64 (k + 1 : Nat)), (5, .sl (encII s.out) s.own), (6, .int .i64 s.don.length)])
      (fun s => h ++ s.j) (fun s => l = s.don ++ s.rest ∧ OwnAt h s.j s.out.length s.own ∧ s.out ++ chooseF s.rest (k + 1) = chooseF l (k + 1)) (fun s => s.rest.length) ⟨[], l, [], .full, []⟩ ?_ (by simp) ⟨rfl, trivial, rfl⟩ Ty.mixed (by kernel_rfl) ?_
    · simp (disch := omega) only [go_sem, bne_self_eq_false, beq_self_eq_true, true_and, and_true, decide_true, decide_false, wrap_i64, ↓reduceIte, Nat.reduceAdd, Nat.reduceSub, Nat.reduceMul, Nat.reduceEqDiff, Nat.reduceLeDiff, Int.reduceAdd, Int.reduceSub, Int.reduceNeg, Int.reduceLT, Int.reduceLE, Int.reduceEq, Int.reduceToNat, Nat.reduceMod]
      simp [encII]
    rintro ⟨don, rest, out, own, j⟩ ⟨rfl, ho, hc⟩
    simp only at ho hc ⊢
    have hl' : don.length + rest.length ≤ 12 := by simpa using hl
    simp (disch := omega) only [go_sem, bne_self_eq_false, beq_self_eq_true, true_and, and_true, decide_true, decide_false, wrap_i64, ↓reduceIte, Nat.reduceAdd, Nat.reduceSub, Nat.reduceMul, Nat.reduceEqDiff, Nat.reduceLeDiff, Int.reduceAdd, Int.reduceSub, Int.reduceNeg, Int.reduceLT, Int.reduceLE, Int.reduceEq, Int.reduceToNat, Nat.reduceMod, encI_len, List.length_append]
    refine aIf.intro (fun h1 => ?_) (fun h1 => ?_) <;> simp (disch := omega) only [go_sem, bne_self_eq_false, beq_self_eq_true, true_and, and_true, decide_true, decide_false, wrap_i64, ↓reduceIte, Nat.reduceAdd, Nat.reduceSub, Nat.reduceMul, Nat.reduceEqDiff, Nat.reduceLeDiff, Int.reduceAdd, Int.reduceSub, Int.reduceNeg, Int.reduceLT, Int.reduceLE, Int.reduceEq, Int.reduceToNat, Nat.reduceMod]
    · cases rest with
      | nil => simp at h1; omega
      | cons x r =>
        simp only [List.length_cons] at hl' h1
        simp (disch := omega) only [go_sem, bne_self_eq_false, beq_self_eq_true, true_and, and_true, decide_true, decide_false, wrap_i64, ↓reduceIte, Nat.reduceAdd, Nat.reduceSub, Nat.reduceMul, Nat.reduceEqDiff, Nat.reduceLeDiff, Int.reduceAdd, Int.reduceSub, Int.reduceNeg, Int.reduceLT, Int.reduceLE, Int.reduceEq, Int.reduceToNat, Nat.reduceMod, encI_len, List.length_append, List.length_cons]
        refine ⟨rowsOK_I _, by omega, by omega, ?_⟩
        rw [show (encI (don ++ x :: r)).drop ((don.length : Int) + 1).toNat = encI r from by rw [show ((don.length : Int) + 1).toNat = don.length + 1 from by omega, encI_drop]; simp]
        refine ACalls.det (choose_calls Γ k r _ (by omega) (by omega)) ?_
        simp (disch := omega) only [go_sem, bne_self_eq_false, beq_self_eq_true, true_and, and_true, decide_true, decide_false, wrap_i64, ↓reduceIte, Nat.reduceAdd, Nat.reduceSub, Nat.reduceMul, Nat.reduceEqDiff, Nat.reduceLeDiff, Int.reduceAdd, Int.reduceSub, Int.reduceNeg, Int.reduceLT, Int.reduceLE, Int.reduceEq, Int.reduceToNat, Nat.reduceMod, encI_len, List.length_append, List.length_cons]
        have hp := choose_pow r k
        have hp2 : 2 ^ r.length ≤ 2 ^ 12 := Nat.pow_le_pow_right (by omega) (by omega)
        have hpo : (out ++ chooseF (x :: r) (k + 1)).length ≤ 2 ^ 12 := by
          rw [hc]
          refine Nat.le_trans (choose_pow _ _) (Nat.pow_le_pow_right (by omega) (by simp; omega))
        have hpx : (out ++ (chooseF r k).map (x :: ·)).length ≤ 4096 := by
          simp only [chooseF, List.length_append, List.length_map] at hpo ⊢; omega
        refine awp_loopL (β := ChT) (chooseF r k) [0, 1, 5, 6, 7, 8] (fun d s => [(0, .sl (encI (don ++ x :: r)) .free), (1, .int .i64 (k + 1 : Nat)), (5, .sl (encII s.out) s.own), (6, .int .i64 don.length), (7, .sl (encII (chooseF r k)) .free), (8, .int .i64 d.length)])
          (fun s => h ++ s.j) (fun d _ s => OwnAt h s.j s.out.length s.own ∧ s.out = out ++ d.map (x :: ·)) ⟨out, own, j⟩ ?_ rfl ⟨ho, by simp⟩ Ty.mixed (by kernel_rfl) ?_ ?_
        · simp (disch := omega) only [go_sem, bne_self_eq_false, beq_self_eq_true, true_and, and_true, decide_true, decide_false, wrap_i64, ↓reduceIte, Nat.reduceAdd, Nat.reduceSub, Nat.reduceMul, Nat.reduceEqDiff, Nat.reduceLeDiff, Int.reduceAdd, Int.reduceSub, Int.reduceNeg, Int.reduceLT, Int.reduceLE, Int.reduceEq, Int.reduceToNat, Nat.reduceMod]
        · rintro d t rr ⟨o2, own2, j2⟩ hd ⟨ho2, rfl⟩
          simp only at ho2 ⊢
          have ht : t.length = k := choose_mem r k t (by rw [hd]; simp)
          have hdl : d.length + 1 + rr.length ≤ 4096 := by
            have := congrArg List.length hd
            simp at this; omega
          have hol : out.length + d.length + 1 ≤ 4096 := by
            rw [hd] at hpx; simp at hpx; omega
          simp (disch := omega) only [go_sem, bne_self_eq_false, beq_self_eq_true, true_and, and_true, decide_true, decide_false, wrap_i64, ↓reduceIte, Nat.reduceAdd, Nat.reduceSub, Nat.reduceMul, Nat.reduceEqDiff, Nat.reduceLeDiff, Int.reduceAdd, Int.reduceSub, Int.reduceNeg, Int.reduceLT, Int.reduceLE, Int.reduceEq, Int.reduceToNat, Nat.reduceMod, encII_len]
          rw [hd]
          simp (disch := omega) only [go_sem, bne_self_eq_false, beq_self_eq_true, true_and, and_true, decide_true, decide_false, wrap_i64, ↓reduceIte, Nat.reduceAdd, Nat.reduceSub, Nat.reduceMul, Nat.reduceEqDiff, Nat.reduceLeDiff, Int.reduceAdd, Int.reduceSub, Int.reduceNeg, Int.reduceLT, Int.reduceLE, Int.reduceEq, Int.reduceToNat, Nat.reduceMod, List.length_append, List.length_cons]
          refine aIf.pos (by omega) ?_
          have e1 : (encI (don ++ x :: r))[don.length]? = some (.int .i64 x) := by simp [encI]
          have e2 : (encII (d ++ t :: rr))[d.length]? = some (.sl (encI t) .free) := by simp [encII]
          simp (disch := omega) only [go_sem, bne_self_eq_false, beq_self_eq_true, true_and, and_true, decide_true, decide_false, wrap_i64, ↓reduceIte, Nat.reduceAdd, Nat.reduceSub, Nat.reduceMul, Nat.reduceEqDiff, Nat.reduceLeDiff, Int.reduceAdd, Int.reduceSub, Int.reduceNeg, Int.reduceLT, Int.reduceLE, Int.reduceEq, Int.reduceToNat, Nat.reduceMod, encII_len, encI_len, e1, e2, List.length_append, List.length_cons]
          refine aAp_full (rowsOK_I [x]) (rowsOK_I t) (by simp [encI_len]; omega) (by simp [encI_len]; omega) ?_
          simp (disch := omega) only [go_sem, bne_self_eq_false, beq_self_eq_true, true_and, and_true, decide_true, decide_false, wrap_i64, ↓reduceIte, Nat.reduceAdd, Nat.reduceSub, Nat.reduceMul, Nat.reduceEqDiff, Nat.reduceLeDiff, Int.reduceAdd, Int.reduceSub, Int.reduceNeg, Int.reduceLT, Int.reduceLE, Int.reduceEq, Int.reduceToNat, Nat.reduceMod]
          refine aAp_sl (by rw [encII_len]; exact ho2.app _) (rowsOK_II _) (RowsOK.cons rfl (fun c hc => by simp [AV.cells] at hc; subst hc; rfl) (RowsOK.nil 1)) (by simp [encII_len]; omega) (by simp [encII_len]; omega) fun j3 own3 ho3 hg => ?_
          simp (disch := omega) only [go_sem, bne_self_eq_false, beq_self_eq_true, true_and, and_true, decide_true, decide_false, wrap_i64, ↓reduceIte, Nat.reduceAdd, Nat.reduceSub, Nat.reduceMul, Nat.reduceEqDiff, Nat.reduceLeDiff, Int.reduceAdd, Int.reduceSub, Int.reduceNeg, Int.reduceLT, Int.reduceLE, Int.reduceEq, Int.reduceToNat, Nat.reduceMod]
          refine roundL_loose ⟨out ++ (d ++ [t]).map (x :: ·), own3, j3⟩ ⟨?_, rfl⟩ ?_ rfl
          · simpa [encII_len, Nat.add_assoc] using ho3
          · simp (disch := omega) only [go_sem, bne_self_eq_false, beq_self_eq_true, true_and, and_true, decide_true, decide_false, wrap_i64, ↓reduceIte, Nat.reduceAdd, Nat.reduceSub, Nat.reduceMul, Nat.reduceEqDiff, Nat.reduceLeDiff, Int.reduceAdd, Int.reduceSub, Int.reduceNeg, Int.reduceLT, Int.reduceLE, Int.reduceEq, Int.reduceToNat, Nat.reduceMod, List.length_append, looseL_snoc, List.map_append, List.map_cons, List.map_nil, List.append_assoc]
        · rintro ⟨o2, own2, j2⟩ ⟨ho2, rfl⟩
          simp only at ho2 ⊢
          simp (disch := omega) only [go_sem, bne_self_eq_false, beq_self_eq_true, true_and, and_true, decide_true, decide_false, wrap_i64, ↓reduceIte, Nat.reduceAdd, Nat.reduceSub, Nat.reduceMul, Nat.reduceEqDiff, Nat.reduceLeDiff, Int.reduceAdd, Int.reduceSub, Int.reduceNeg, Int.reduceLT, Int.reduceLE, Int.reduceEq, Int.reduceToNat, Nat.reduceMod, encII_len]
          refine AWP.keep [0, 1, 5, 6] (aCode_ok Ty.mixed _ _ _ _ (by kernel_rfl) ?_)
          simp (disch := omega) only [go_sem, bne_self_eq_false, beq_self_eq_true, true_and, and_true, decide_true, decide_false, wrap_i64, ↓reduceIte, Nat.reduceAdd, Nat.reduceSub, Nat.reduceMul, Nat.reduceEqDiff, Nat.reduceLeDiff, Int.reduceAdd, Int.reduceSub, Int.reduceNeg, Int.reduceLT, Int.reduceLE, Int.reduceEq, Int.reduceToNat, Nat.reduceMod]
          refine roundS_next ⟨don ++ [x], r, out ++ (chooseF r k).map (x :: ·), own2, j2⟩ (by simp) ⟨by simp, ho2, ?_⟩ ?_ rfl
          · rw [← hc]; simp [chooseF]
          · simp (disch := omega) only [go_sem, bne_self_eq_false, beq_self_eq_true, true_and, and_true, decide_true, decide_false, wrap_i64, ↓reduceIte, Nat.reduceAdd, Nat.reduceSub, Nat.reduceMul, Nat.reduceEqDiff, Nat.reduceLeDiff, Int.reduceAdd, Int.reduceSub, Int.reduceNeg, Int.reduceLT, Int.reduceLE, Int.reduceEq, Int.reduceToNat, Nat.reduceMod, List.length_append]
    · refine AWP.keep [5] (aCode_ok Ty.mixed _ _ _ _ (by kernel_rfl) ?_)
      simp (disch := omega) only [go_sem, bne_self_eq_false, beq_self_eq_true, true_and, and_true, decide_true, decide_false, wrap_i64, ↓reduceIte, Nat.reduceAdd, Nat.reduceSub, Nat.reduceMul, Nat.reduceEqDiff, Nat.reduceLeDiff, Int.reduceAdd, Int.reduceSub, Int.reduceNeg, Int.reduceLT, Int.reduceLE, Int.reduceEq, Int.reduceToNat, Nat.reduceMod]
      have : chooseF rest (k + 1) = [] := choose_short _ _ (by omega)
      rw [this, List.append_nil] at hc
      rw [hc]

def allUp (l : List Int) (m : Nat) : List (List Int) := (List.range m).flatMap (chooseF l)
def allF (l : List Int) : List (List Int) := allUp l (l.length + 1)
theorem allUp_len (l : List Int) (h : l.length ≤ 12) : ∀ m, (allUp l m).length ≤ m * 4096
  | 0 => by simp [allUp]
  | m + 1 => by
    have h1 := allUp_len l h m
    have h2 := choose_pow l m
    have h3 : 2 ^ l.length ≤ 2 ^ 12 := Nat.pow_le_pow_right (by omega) h
    simp only [allUp, List.range_succ, List.flatMap_append, List.flatMap_cons, List.flatMap_nil, List.append_nil, List.length_append] at h1 ⊢
    omega
structure AlT where
  m : Nat
  own : Abs.Own
  j : AH
set_option maxRecDepth 100000 in
theorem all_calls (Γ : Nat → Option (List AV)) (l : List Int) (h : AH) (hl : l.length ≤ 12) :
    ACalls Try.prog Γ 51 [.sl (encI l) .free] h fun v h' => h' = h ∧ v = .sl (encII (allF l)) .free := by
  refine ACalls.dropL ?_
  refine acalls_code (rs := [.tmp 2]) Try.func51 rfl rfl rfl rfl Ty.mixed (by kernel_rfl) ?_
  simp (disch := omega) only [go_sem, bne_self_eq_false, beq_self_eq_true, true_and, and_true, decide_true, decide_false, wrap_i64, ↓reduceIte, Nat.reduceAdd, Nat.reduceSub, Nat.reduceMul, Nat.reduceEqDiff, Nat.reduceLeDiff, Int.reduceAdd, Int.reduceSub, Int.reduceNeg, Int.reduceLT, Int.reduceLE, Int.reduceEq, Int.reduceToNat, Nat.reduceMod]
  refine awp_loopS (α := AlT) [0, 3, 4] (fun s => [(0, .sl (encI l) .free), (3, .sl (encII (allUp l s.m)) s.own), (4, .int .i64 s.m)])
    (fun s => h ++ s.j) (fun s => s.m ≤ l.length + 1 ∧ OwnAt h s.j (allUp l s.m).length s.own) (fun s => l.length + 1 - s.m) ⟨0, .full, []⟩ ?_ (by simp) ⟨by simp, trivial⟩ Ty.mixed (by kernel_rfl) ?_
  · simp (disch := omega) only [go_sem, bne_self_eq_false, beq_self_eq_true, true_and, and_true, decide_true, decide_false, wrap_i64, ↓reduceIte, Nat.reduceAdd, Nat.reduceSub, Nat.reduceMul, Nat.reduceEqDiff, Nat.reduceLeDiff, Int.reduceAdd, Int.reduceSub, Int.reduceNeg, Int.reduceLT, Int.reduceLE, Int.reduceEq, Int.reduceToNat, Nat.reduceMod]
    simp [allUp, encII]
  rintro ⟨m, own, j⟩ ⟨hm, ho⟩
  simp only at hm ho ⊢
  have ha := allUp_len l hl m
  have hp := choose_pow l m
  have h3 : 2 ^ l.length ≤ 2 ^ 12 := Nat.pow_le_pow_right (by omega) hl
  simp (disch := omega) only [go_sem, bne_self_eq_false, beq_self_eq_true, true_and, and_true, decide_true, decide_false, wrap_i64, ↓reduceIte, Nat.reduceAdd, Nat.reduceSub, Nat.reduceMul, Nat.reduceEqDiff, Nat.reduceLeDiff, Int.reduceAdd, Int.reduceSub, Int.reduceNeg, Int.reduceLT, Int.reduceLE, Int.reduceEq, Int.reduceToNat, Nat.reduceMod, encI_len]
  refine aIf.intro (fun h1 => ?_) (fun h1 => ?_) <;> simp (disch := omega) only [go_sem, bne_self_eq_false, beq_self_eq_true, true_and, and_true, decide_true, decide_false, wrap_i64, ↓reduceIte, Nat.reduceAdd, Nat.reduceSub, Nat.reduceMul, Nat.reduceEqDiff, Nat.reduceLeDiff, Int.reduceAdd, Int.reduceSub, Int.reduceNeg, Int.reduceLT, Int.reduceLE, Int.reduceEq, Int.reduceToNat, Nat.reduceMod]
  · refine ACalls.det (choose_calls Γ m l _ hl (by omega)) ?_
    simp (disch := omega) only [go_sem, bne_self_eq_false, beq_self_eq_true, true_and, and_true, decide_true, decide_false, wrap_i64, ↓reduceIte, Nat.reduceAdd, Nat.reduceSub, Nat.reduceMul, Nat.reduceEqDiff, Nat.reduceLeDiff, Int.reduceAdd, Int.reduceSub, Int.reduceNeg, Int.reduceLT, Int.reduceLE, Int.reduceEq, Int.reduceToNat, Nat.reduceMod]
    refine aAp_sl (by rw [encII_len]; exact ho) (rowsOK_II _) (rowsOK_II _) (by simp [encII_len]; omega) (by simp [encII_len]; omega) fun j3 own3 ho3 hg => ?_
    rw [← encII_app, show allUp l m ++ chooseF l m = allUp l (m + 1) from by simp [allUp, List.range_succ]]
    simp (disch := omega) only [go_sem, bne_self_eq_false, beq_self_eq_true, true_and, and_true, decide_true, decide_false, wrap_i64, ↓reduceIte, Nat.reduceAdd, Nat.reduceSub, Nat.reduceMul, Nat.reduceEqDiff, Nat.reduceLeDiff, Int.reduceAdd, Int.reduceSub, Int.reduceNeg, Int.reduceLT, Int.reduceLE, Int.reduceEq, Int.reduceToNat, Nat.reduceMod]
    refine roundS_next ⟨m + 1, own3, j3⟩ (by simp only; omega) ⟨by simp only; omega, ?_⟩ ?_ rfl
    · have : (allUp l (m + 1)).length = (allUp l m).length + (chooseF l m).length := by simp [allUp, List.range_succ]
      simp only [this]
      simpa [encII_len] using ho3
    · simp (disch := omega) only [go_sem, bne_self_eq_false, beq_self_eq_true, true_and, and_true, decide_true, decide_false, wrap_i64, ↓reduceIte, Nat.reduceAdd, Nat.reduceSub, Nat.reduceMul, Nat.reduceEqDiff, Nat.reduceLeDiff, Int.reduceAdd, Int.reduceSub, Int.reduceNeg, Int.reduceLT, Int.reduceLE, Int.reduceEq, Int.reduceToNat, Nat.reduceMod, List.length_append]
  · refine AWP.keep [3] (aCode_ok Ty.mixed _ _ _ _ (by kernel_rfl) ?_)
    simp (disch := omega) only [go_sem, bne_self_eq_false, beq_self_eq_true, true_and, and_true, decide_true, decide_false, wrap_i64, ↓reduceIte, Nat.reduceAdd, Nat.reduceSub, Nat.reduceMul, Nat.reduceEqDiff, Nat.reduceLeDiff, Int.reduceAdd, Int.reduceSub, Int.reduceNeg, Int.reduceLT, Int.reduceLE, Int.reduceEq, Int.reduceToNat, Nat.reduceMod]
    have : m = l.length + 1 := by omega
    subst this
    rfl
end Go.Proofs.Ytopiamdfnaejeaa
