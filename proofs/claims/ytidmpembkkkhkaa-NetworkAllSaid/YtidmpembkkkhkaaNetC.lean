/- The program's Check of nets; whether nets are equal. No conditions. -/
import Derived.Test.YtidmpembkkkhkaaNetB
set_option linter.unusedSimpArgs false
set_option linter.unusedVariables false
namespace Go.Proofs.Ytidmpembkkkhkaa
open Go Go.Proofs Go.Abs

/-! ### The program's Check -/
/-- Is there one of which a predicate with a state holds? -/
def anyS {α β : Type} (p : α → β → Bool × β) : List α → β → Bool × β
  | [], b => (false, b)
  | x :: r, b => if (p x b).1 then (true, (p x b).2) else anyS p r (p x b).2
def idxS {α β : Type} (p : α → β → Bool × β) : List α → Nat → β → Int × β
  | [], _, b => (-1, b)
  | x :: r, i, b => if (p x b).1 then (i, (p x b).2) else idxS p r (i + 1) (p x b).2
theorem idxS_any {α β : Type} (p : α → β → Bool × β) (l : List α) (i : Nat) (b : β) : (idxS p l i b).2 = (anyS p l b).2 ∧ (0 ≤ (idxS p l i b).1 ↔ (anyS p l b).1 = true) := by
  induction l generalizing i b with
  | nil => simp [idxS, anyS]
  | cons x r ih =>
    simp only [idxS, anyS]
    split
    · exact ⟨rfl, by simp⟩
    · exact ih _ _

theorem index_calls (Γ : Nat → Option (List AV)) {β : Type} (xs : List Pk) (hx : xs.length ≤ 9223372036854775807) (fn : FuncId) (fs cs : List AV) (hp : β → AH) (p : Pk → β → Bool × β) (inv : β → Prop)
    (H : ∀ x ∈ xs, ∀ b, inv b → ((p x b).1 = false → inv (p x b).2) ∧ ACalls Try.prog Γ fn (fs ++ encK x :: cs) (hp b) fun v h' => h' = hp (p x b).2 ∧ v = .bool (p x b).1) (b : β) (hb : inv b) :
    ACalls Try.prog Γ 43 [.sl (xs.map encK) .free, .func fn fs cs] (hp b) fun v h' => h' = hp (idxS p xs 0 b).2 ∧ v = .int .i64 (idxS p xs 0 b).1 := by
  refine acalls_code (rs := [.tmp 4]) Try.func43 rfl rfl rfl rfl Ty.mixed (by kernel_rfl) ?_
  simp (disch := omega) only [go_sem, bne_self_eq_false, beq_self_eq_true, true_and, and_true, decide_true, decide_false, wrap_i64, ↓reduceIte, Nat.reduceAdd, Nat.reduceSub, Nat.reduceMul, Nat.reduceEqDiff, Nat.reduceLeDiff, Int.reduceAdd, Int.reduceSub, Int.reduceNeg, Int.reduceLT, Int.reduceLE, Int.reduceEq, Int.reduceToNat, Nat.reduceMod]
  refine awp_loopL (β := β) xs [8, 7, 1, 0] (fun don _ => [(8, .int .i64 don.length), (7, .int .i64 xs.length), (1, .func fn fs cs), (0, .sl (xs.map encK) .free)])
      (fun b => hp b) (fun don rest b' => inv b' ∧ idxS p xs 0 b = idxS p rest don.length b') b ?_ rfl ⟨hb, rfl⟩ Ty.mixed (by kernel_rfl) ?_ ?_
  · simp (disch := omega) only [go_sem, bne_self_eq_false, beq_self_eq_true, true_and, and_true, decide_true, decide_false, wrap_i64, ↓reduceIte, Nat.reduceAdd, Nat.reduceSub, Nat.reduceMul, Nat.reduceEqDiff, Nat.reduceLeDiff, Int.reduceAdd, Int.reduceSub, Int.reduceNeg, Int.reduceLT, Int.reduceLE, Int.reduceEq, Int.reduceToNat, Nat.reduceMod]
  · rintro don x r b' rfl ⟨hi, hs⟩
    have hl3 := len_mid hx
    simp (disch := omega) only [go_sem, bne_self_eq_false, beq_self_eq_true, true_and, and_true, decide_true, decide_false, wrap_i64, ↓reduceIte, Nat.reduceAdd, Nat.reduceSub, Nat.reduceMul, Nat.reduceEqDiff, Nat.reduceLeDiff, Int.reduceAdd, Int.reduceSub, Int.reduceNeg, Int.reduceLT, Int.reduceLE, Int.reduceEq, Int.reduceToNat, Nat.reduceMod, List.map_append, List.map_cons, List.length_append]
    refine aIf.pos (by omega) ?_
    simp (disch := omega) only [go_sem, bne_self_eq_false, beq_self_eq_true, true_and, and_true, decide_true, decide_false, wrap_i64, ↓reduceIte, Nat.reduceAdd, Nat.reduceSub, Nat.reduceMul, Nat.reduceEqDiff, Nat.reduceLeDiff, Int.reduceAdd, Int.reduceSub, Int.reduceNeg, Int.reduceLT, Int.reduceLE, Int.reduceEq, Int.reduceToNat, Nat.reduceMod]
    obtain ⟨h1, h2⟩ := H x (by simp) b' hi
    refine ACalls.detH (h2.args (by simp)) ?_
    simp (disch := omega) only [go_sem, bne_self_eq_false, beq_self_eq_true, true_and, and_true, decide_true, decide_false, wrap_i64, ↓reduceIte, Nat.reduceAdd, Nat.reduceSub, Nat.reduceMul, Nat.reduceEqDiff, Nat.reduceLeDiff, Int.reduceAdd, Int.reduceSub, Int.reduceNeg, Int.reduceLT, Int.reduceLE, Int.reduceEq, Int.reduceToNat, Nat.reduceMod]
    refine aBr.intro (fun hb => ?_) (fun hb => ?_) <;> simp (disch := omega) only [go_sem, bne_self_eq_false, beq_self_eq_true, true_and, and_true, decide_true, decide_false, wrap_i64, ↓reduceIte, Nat.reduceAdd, Nat.reduceSub, Nat.reduceMul, Nat.reduceEqDiff, Nat.reduceLeDiff, Int.reduceAdd, Int.reduceSub, Int.reduceNeg, Int.reduceLT, Int.reduceLE, Int.reduceEq, Int.reduceToNat, Nat.reduceMod]
    · rw [hs, idxS, if_pos hb]; exact ⟨rfl, rfl⟩
    · refine roundL_next (p x b').2 ⟨h1 (by simpa using hb), by rw [hs, idxS, if_neg (by simp at hb; simp [hb])]; simp⟩ ?_ rfl
      simp (disch := omega) only [go_sem, bne_self_eq_false, beq_self_eq_true, true_and, and_true, decide_true, decide_false, wrap_i64, ↓reduceIte, Nat.reduceAdd, Nat.reduceSub, Nat.reduceMul, Nat.reduceEqDiff, Nat.reduceLeDiff, Int.reduceAdd, Int.reduceSub, Int.reduceNeg, Int.reduceLT, Int.reduceLE, Int.reduceEq, Int.reduceToNat, Nat.reduceMod, List.length_append, List.map_append, List.map_cons]
  · rintro b' ⟨_, hs⟩
    simp (disch := omega) only [go_sem, bne_self_eq_false, beq_self_eq_true, true_and, and_true, decide_true, decide_false, wrap_i64, ↓reduceIte, Nat.reduceAdd, Nat.reduceSub, Nat.reduceMul, Nat.reduceEqDiff, Nat.reduceLeDiff, Int.reduceAdd, Int.reduceSub, Int.reduceNeg, Int.reduceLT, Int.reduceLE, Int.reduceEq, Int.reduceToNat, Nat.reduceMod]
    refine AWP.keep [0] (aCode_ok Ty.mixed _ _ _ _ (by kernel_rfl) ?_)
    simp (disch := omega) only [go_sem, bne_self_eq_false, beq_self_eq_true, true_and, and_true, decide_true, decide_false, wrap_i64, ↓reduceIte, Nat.reduceAdd, Nat.reduceSub, Nat.reduceMul, Nat.reduceEqDiff, Nat.reduceLeDiff, Int.reduceAdd, Int.reduceSub, Int.reduceNeg, Int.reduceLT, Int.reduceLE, Int.reduceEq, Int.reduceToNat, Nat.reduceMod]
    rw [hs]; exact ⟨rfl, rfl⟩

theorem contains_calls (Γ : Nat → Option (List AV)) {β : Type} (xs : List Pk) (hx : xs.length ≤ 9223372036854775807) (fn : FuncId) (fs cs : List AV) (hp : β → AH) (p : Pk → β → Bool × β) (inv : β → Prop)
    (H : ∀ x ∈ xs, ∀ b, inv b → ((p x b).1 = false → inv (p x b).2) ∧ ACalls Try.prog Γ fn (fs ++ encK x :: cs) (hp b) fun v h' => h' = hp (p x b).2 ∧ v = .bool (p x b).1) (b : β) (hb : inv b) :
    ACalls Try.prog Γ 30 [.sl (xs.map encK) .free, .func fn fs cs] (hp b) fun v h' => h' = hp (anyS p xs b).2 ∧ v = .bool (anyS p xs b).1 := by
  refine acalls_code (rs := [.tmp 4]) Try.func30 rfl rfl rfl rfl Ty.mixed (by kernel_rfl) ?_
  simp (disch := omega) only [go_sem, bne_self_eq_false, beq_self_eq_true, true_and, and_true, decide_true, decide_false, wrap_i64, ↓reduceIte, Nat.reduceAdd, Nat.reduceSub, Nat.reduceMul, Nat.reduceEqDiff, Nat.reduceLeDiff, Int.reduceAdd, Int.reduceSub, Int.reduceNeg, Int.reduceLT, Int.reduceLE, Int.reduceEq, Int.reduceToNat, Nat.reduceMod]
  refine ACalls.detH (index_calls Γ xs hx fn fs cs hp p inv H b hb) ?_
  simp (disch := omega) only [go_sem, bne_self_eq_false, beq_self_eq_true, true_and, and_true, decide_true, decide_false, wrap_i64, ↓reduceIte, Nat.reduceAdd, Nat.reduceSub, Nat.reduceMul, Nat.reduceEqDiff, Nat.reduceLeDiff, Int.reduceAdd, Int.reduceSub, Int.reduceNeg, Int.reduceLT, Int.reduceLE, Int.reduceEq, Int.reduceToNat, Nat.reduceMod]
  have := idxS_any p xs 0 b
  refine ⟨by rw [this.1], ?_⟩
  congr 1
  rw [Bool.eq_iff_iff, ← this.2]; simp

theorem anyS_unit (q : Pk → Bool) (l : List Pk) : (anyS (fun x (_ : Unit) => (q x, ())) l ()).1 = l.any q := by
  induction l with
  | nil => rfl
  | cons x r ih =>
    simp only [anyS, List.any_cons]
    cases q x <;> simp [ih]


theorem check_calls (Γ : Nat → Option (List AV)) (n : Nt) (h : AH) (hq : n.q.length ≤ 9223372036854775807) (ha : n.a.length ≤ 9223372036854775807) :
    ACalls Try.prog Γ 13 [encN n] h fun v h' => h' = h ∧ v = .int .i64 (checkF n) := by
  refine ACalls.drop ?_
  obtain ⟨q, a⟩ := n
  simp only at hq ha
  refine acalls_code (rs := [.tmp 2]) Try.func13 rfl rfl rfl rfl Ty.mixed (by kernel_rfl) ?_
  simp (disch := omega) only [go_sem, bne_self_eq_false, beq_self_eq_true, true_and, and_true, decide_true, decide_false, wrap_i64, ↓reduceIte, Nat.reduceAdd, Nat.reduceSub, Nat.reduceMul, Nat.reduceEqDiff, Nat.reduceLeDiff, Int.reduceAdd, Int.reduceSub, Int.reduceNeg, Int.reduceLT, Int.reduceLE, Int.reduceEq, Int.reduceToNat, Nat.reduceMod, encN]
  refine aIf.intro (fun h1 => ?_) (fun h1 => ?_) <;> simp (disch := omega) only [go_sem, bne_self_eq_false, beq_self_eq_true, true_and, and_true, decide_true, decide_false, wrap_i64, ↓reduceIte, Nat.reduceAdd, Nat.reduceSub, Nat.reduceMul, Nat.reduceEqDiff, Nat.reduceLeDiff, Int.reduceAdd, Int.reduceSub, Int.reduceNeg, Int.reduceLT, Int.reduceLE, Int.reduceEq, Int.reduceToNat, Nat.reduceMod]
  · simp [checkF]; omega
  refine ACalls.detH (contains_calls Γ q hq 31 [] [] (fun _ => _) (fun x (_ : Unit) => (!packetF x, ())) (fun _ => True) (fun x hx b _ => ⟨fun _ => trivial, ?_⟩) () trivial) ?_
  · refine ACalls.drop ?_
    refine acalls_code (rs := [.tmp 2]) Try.func31 rfl rfl rfl rfl Ty.mixed (by kernel_rfl) ?_
    simp (disch := omega) only [go_sem, bne_self_eq_false, beq_self_eq_true, true_and, and_true, decide_true, decide_false, wrap_i64, ↓reduceIte, Nat.reduceAdd, Nat.reduceSub, Nat.reduceMul, Nat.reduceEqDiff, Nat.reduceLeDiff, Int.reduceAdd, Int.reduceSub, Int.reduceNeg, Int.reduceLT, Int.reduceLE, Int.reduceEq, Int.reduceToNat, Nat.reduceMod]
    refine ACalls.det (packet_calls Γ x _) ?_
    simp (disch := omega) only [go_sem, bne_self_eq_false, beq_self_eq_true, true_and, and_true, decide_true, decide_false, wrap_i64, ↓reduceIte, Nat.reduceAdd, Nat.reduceSub, Nat.reduceMul, Nat.reduceEqDiff, Nat.reduceLeDiff, Int.reduceAdd, Int.reduceSub, Int.reduceNeg, Int.reduceLT, Int.reduceLE, Int.reduceEq, Int.reduceToNat, Nat.reduceMod]
  rw [anyS_unit]
  have hany : (q.any fun x => !packetF x) = !q.all packetF := by rw [List.any_eq_not_all_not]; simp
  rw [hany]
  simp (disch := omega) only [go_sem, bne_self_eq_false, beq_self_eq_true, true_and, and_true, decide_true, decide_false, wrap_i64, ↓reduceIte, Nat.reduceAdd, Nat.reduceSub, Nat.reduceMul, Nat.reduceEqDiff, Nat.reduceLeDiff, Int.reduceAdd, Int.reduceSub, Int.reduceNeg, Int.reduceLT, Int.reduceLE, Int.reduceEq, Int.reduceToNat, Nat.reduceMod]
  refine aBr.intro (fun hall => ?_) (fun hall => ?_) <;> simp (disch := omega) only [go_sem, bne_self_eq_false, beq_self_eq_true, true_and, and_true, decide_true, decide_false, wrap_i64, ↓reduceIte, Nat.reduceAdd, Nat.reduceSub, Nat.reduceMul, Nat.reduceEqDiff, Nat.reduceLeDiff, Int.reduceAdd, Int.reduceSub, Int.reduceNeg, Int.reduceLT, Int.reduceLE, Int.reduceEq, Int.reduceToNat, Nat.reduceMod]
  rotate_left
  · have hall : q.all packetF = false := by rw [hall]; rfl
    simp only [checkF, hall]
    split <;> rfl
  have hck : checkF ⟨q, a⟩ = if linksF none a then 0 else 60 := by simp only [checkF, hall, if_true]; rw [if_pos (by omega)]
  rw [hck]
  refine awp_loopL (β := AH) a [17, 16, 15, 2, 1] (fun don _ => [(17, .int .i64 don.length), (16, .int .i64 a.length), (15, .sl (a.map encL) .free), (2, .int .i64 0), (1, .ptr (some (h.length, 0)))])
    (fun j => h ++ .row [.sl (q.map encK) .free, .sl (a.map encL) .free] 25 :: j) (fun don rest _ => linksF none a = linksF (prevOf don) rest) [] ?_ rfl rfl Ty.mixed (by kernel_rfl) ?_ ?_
  · simp (disch := omega) only [go_sem, bne_self_eq_false, beq_self_eq_true, true_and, and_true, decide_true, decide_false, wrap_i64, ↓reduceIte, Nat.reduceAdd, Nat.reduceSub, Nat.reduceMul, Nat.reduceEqDiff, Nat.reduceLeDiff, Int.reduceAdd, Int.reduceSub, Int.reduceNeg, Int.reduceLT, Int.reduceLE, Int.reduceEq, Int.reduceToNat, Nat.reduceMod]
  · rintro don x r j rfl hs
    have hl3 := len_mid ha
    simp (disch := omega) only [go_sem, bne_self_eq_false, beq_self_eq_true, true_and, and_true, decide_true, decide_false, wrap_i64, ↓reduceIte, Nat.reduceAdd, Nat.reduceSub, Nat.reduceMul, Nat.reduceEqDiff, Nat.reduceLeDiff, Int.reduceAdd, Int.reduceSub, Int.reduceNeg, Int.reduceLT, Int.reduceLE, Int.reduceEq, Int.reduceToNat, Nat.reduceMod, List.map_append, List.map_cons, List.length_append]
    refine aIf.pos (by omega) ?_
    simp (disch := omega) only [go_sem, bne_self_eq_false, beq_self_eq_true, true_and, and_true, decide_true, decide_false, wrap_i64, ↓reduceIte, Nat.reduceAdd, Nat.reduceSub, Nat.reduceMul, Nat.reduceEqDiff, Nat.reduceLeDiff, Int.reduceAdd, Int.reduceSub, Int.reduceNeg, Int.reduceLT, Int.reduceLE, Int.reduceEq, Int.reduceToNat, Nat.reduceMod]
    refine aCallF.intro (fun _ => valid_calls Γ x _) ?_
    simp (disch := omega) only [go_sem, bne_self_eq_false, beq_self_eq_true, true_and, and_true, decide_true, decide_false, wrap_i64, ↓reduceIte, Nat.reduceAdd, Nat.reduceSub, Nat.reduceMul, Nat.reduceEqDiff, Nat.reduceLeDiff, Int.reduceAdd, Int.reduceSub, Int.reduceNeg, Int.reduceLT, Int.reduceLE, Int.reduceEq, Int.reduceToNat, Nat.reduceMod]
    refine aBr.intro (fun hv => ?_) (fun hv => ?_) <;> simp (disch := omega) only [go_sem, bne_self_eq_false, beq_self_eq_true, true_and, and_true, decide_true, decide_false, wrap_i64, ↓reduceIte, Nat.reduceAdd, Nat.reduceSub, Nat.reduceMul, Nat.reduceEqDiff, Nat.reduceLeDiff, Int.reduceAdd, Int.reduceSub, Int.reduceNeg, Int.reduceLT, Int.reduceLE, Int.reduceEq, Int.reduceToNat, Nat.reduceMod]
    · rw [hs, linksF, hv]; rfl
    rcases List.eq_nil_or_concat don with rfl | ⟨d, y, rfl⟩
    · simp only [List.nil_append] at hs
      simp (disch := omega) only [go_sem, bne_self_eq_false, beq_self_eq_true, true_and, and_true, decide_true, decide_false, wrap_i64, ↓reduceIte, Nat.reduceAdd, Nat.reduceSub, Nat.reduceMul, Nat.reduceEqDiff, Nat.reduceLeDiff, Int.reduceAdd, Int.reduceSub, Int.reduceNeg, Int.reduceLT, Int.reduceLE, Int.reduceEq, Int.reduceToNat, Nat.reduceMod, List.length_nil]
      refine roundL_next (j ++ [.row (encL x).cells 55]) ?_ ?_ ?_
      · rw [hs, linksF, hv]; rfl
      · simp (disch := omega) only [go_sem, bne_self_eq_false, beq_self_eq_true, true_and, and_true, decide_true, decide_false, wrap_i64, ↓reduceIte, Nat.reduceAdd, Nat.reduceSub, Nat.reduceMul, Nat.reduceEqDiff, Nat.reduceLeDiff, Int.reduceAdd, Int.reduceSub, Int.reduceNeg, Int.reduceLT, Int.reduceLE, Int.reduceEq, Int.reduceToNat, Nat.reduceMod, List.length_cons, List.length_nil, List.length_append]
      · simp [encL, AV.cells]
    · simp only [List.concat_eq_append] at *
      have hd : linksF none (d ++ [y] ++ x :: r) = (ltL y x && linksF (some x) r) := by rw [hs, prev_app, linksF, hv]; rfl
      simp only [List.append_assoc, List.cons_append, List.nil_append] at hd
      have hl4 : d.length + 2 + r.length ≤ 9223372036854775807 := by simp at hl3; omega
      simp (disch := omega) only [go_sem, bne_self_eq_false, beq_self_eq_true, true_and, and_true, decide_true, decide_false, wrap_i64, ↓reduceIte, Nat.reduceAdd, Nat.reduceSub, Nat.reduceMul, Nat.reduceEqDiff, Nat.reduceLeDiff, Int.reduceAdd, Int.reduceSub, Int.reduceNeg, Int.reduceLT, Int.reduceLE, Int.reduceEq, Int.reduceToNat, Nat.reduceMod, List.length_append, List.length_cons, List.length_nil]
      refine aIf.pos (by omega) ?_
      simp (disch := omega) only [go_sem, bne_self_eq_false, beq_self_eq_true, true_and, and_true, decide_true, decide_false, wrap_i64, ↓reduceIte, Nat.reduceAdd, Nat.reduceSub, Nat.reduceMul, Nat.reduceEqDiff, Nat.reduceLeDiff, Int.reduceAdd, Int.reduceSub, Int.reduceNeg, Int.reduceLT, Int.reduceLE, Int.reduceEq, Int.reduceToNat, Nat.reduceMod, List.map_append, List.map_cons, List.map_nil, List.append_assoc, List.cons_append, List.nil_append, Int.add_sub_cancel]
      refine ⟨by simp [encL, AV.cells, AV.one], aCallF.intro (fun _ => scompare_calls Γ y x _ 55 _ (by simp (disch := omega) only [go_sem, bne_self_eq_false, beq_self_eq_true, true_and, and_true, decide_true, decide_false, wrap_i64, ↓reduceIte, Nat.reduceAdd, Nat.reduceSub, Nat.reduceMul, Nat.reduceEqDiff, Nat.reduceLeDiff, Int.reduceAdd, Int.reduceSub, Int.reduceNeg, Int.reduceLT, Int.reduceLE, Int.reduceEq, Int.reduceToNat, Nat.reduceMod])) ?_⟩
      simp (disch := omega) only [go_sem, bne_self_eq_false, beq_self_eq_true, true_and, and_true, decide_true, decide_false, wrap_i64, ↓reduceIte, Nat.reduceAdd, Nat.reduceSub, Nat.reduceMul, Nat.reduceEqDiff, Nat.reduceLeDiff, Int.reduceAdd, Int.reduceSub, Int.reduceNeg, Int.reduceLT, Int.reduceLE, Int.reduceEq, Int.reduceToNat, Nat.reduceMod]
      have hlt := cmp2_lt y x
      refine aIf.intro (fun h4 => ?_) (fun h4 => ?_) <;> simp (disch := omega) only [go_sem, bne_self_eq_false, beq_self_eq_true, true_and, and_true, decide_true, decide_false, wrap_i64, ↓reduceIte, Nat.reduceAdd, Nat.reduceSub, Nat.reduceMul, Nat.reduceEqDiff, Nat.reduceLeDiff, Int.reduceAdd, Int.reduceSub, Int.reduceNeg, Int.reduceLT, Int.reduceLE, Int.reduceEq, Int.reduceToNat, Nat.reduceMod]
      · have : ltL y x = false := by rw [← Bool.not_eq_true, ← hlt]; omega
        rw [hd, this]; rfl
      · have : ltL y x = true := by rw [← hlt]; omega
        refine roundL_next (j ++ [.row (encL x).cells 55]) ?_ ?_ ?_
        · rw [hd, this, prev_app]; rfl
        · simp (disch := omega) only [go_sem, bne_self_eq_false, beq_self_eq_true, true_and, and_true, decide_true, decide_false, wrap_i64, ↓reduceIte, Nat.reduceAdd, Nat.reduceSub, Nat.reduceMul, Nat.reduceEqDiff, Nat.reduceLeDiff, Int.reduceAdd, Int.reduceSub, Int.reduceNeg, Int.reduceLT, Int.reduceLE, Int.reduceEq, Int.reduceToNat, Nat.reduceMod, List.length_cons, List.length_nil, List.length_append]
        · simp
  · intro j hs
    simp (disch := omega) only [go_sem, bne_self_eq_false, beq_self_eq_true, true_and, and_true, decide_true, decide_false, wrap_i64, ↓reduceIte, Nat.reduceAdd, Nat.reduceSub, Nat.reduceMul, Nat.reduceEqDiff, Nat.reduceLeDiff, Int.reduceAdd, Int.reduceSub, Int.reduceNeg, Int.reduceLT, Int.reduceLE, Int.reduceEq, Int.reduceToNat, Nat.reduceMod]
    refine AWP.keep [2, 1] (aCode_ok Ty.mixed _ _ _ _ (by kernel_rfl) ?_)
    simp (disch := omega) only [go_sem, bne_self_eq_false, beq_self_eq_true, true_and, and_true, decide_true, decide_false, wrap_i64, ↓reduceIte, Nat.reduceAdd, Nat.reduceSub, Nat.reduceMul, Nat.reduceEqDiff, Nat.reduceLeDiff, Int.reduceAdd, Int.reduceSub, Int.reduceNeg, Int.reduceLT, Int.reduceLE, Int.reduceEq, Int.reduceToNat, Nat.reduceMod]
    rw [hs]
    rfl

/-! ### Are nets equal? -/
theorem same_calls (Γ : Nat → Option (List AV)) (m n : Nt) (h : AH) (hq : m.q.length ≤ 9223372036854775807) (ha : m.a.length ≤ 9223372036854775807) :
    ACalls Try.prog Γ 15 [encN m, encN n] h fun v h' => h' = h ∧ v = .bool (decide (m = n)) := by
  refine ACalls.drop ?_
  obtain ⟨q, a⟩ := m
  obtain ⟨q', a'⟩ := n
  simp only at hq ha
  have hmn : decide (Nt.mk q a = Nt.mk q' a') = (decide (q = q') && decide (a = a')) := by simp
  rw [hmn]
  refine acalls_code (rs := [.tmp 4]) Try.func15 rfl rfl rfl rfl Ty.mixed (by kernel_rfl) ?_
  simp (disch := omega) only [go_sem, bne_self_eq_false, beq_self_eq_true, true_and, and_true, decide_true, decide_false, wrap_i64, ↓reduceIte, Nat.reduceAdd, Nat.reduceSub, Nat.reduceMul, Nat.reduceEqDiff, Nat.reduceLeDiff, Int.reduceAdd, Int.reduceSub, Int.reduceNeg, Int.reduceLT, Int.reduceLE, Int.reduceEq, Int.reduceToNat, Nat.reduceMod, encN]
  refine aIf.intro (fun h1 => ?_) (fun h1 => ?_) <;> simp (disch := omega) only [go_sem, bne_self_eq_false, beq_self_eq_true, true_and, and_true, decide_true, decide_false, wrap_i64, ↓reduceIte, Nat.reduceAdd, Nat.reduceSub, Nat.reduceMul, Nat.reduceEqDiff, Nat.reduceLeDiff, Int.reduceAdd, Int.reduceSub, Int.reduceNeg, Int.reduceLT, Int.reduceLE, Int.reduceEq, Int.reduceToNat, Nat.reduceMod]
  rotate_left
  · have : q ≠ q' := fun e => h1 (by rw [e])
    simp [this]
  refine aIf.intro (fun h2 => ?_) (fun h2 => ?_) <;> simp (disch := omega) only [go_sem, bne_self_eq_false, beq_self_eq_true, true_and, and_true, decide_true, decide_false, wrap_i64, ↓reduceIte, Nat.reduceAdd, Nat.reduceSub, Nat.reduceMul, Nat.reduceEqDiff, Nat.reduceLeDiff, Int.reduceAdd, Int.reduceSub, Int.reduceNeg, Int.reduceLT, Int.reduceLE, Int.reduceEq, Int.reduceToNat, Nat.reduceMod]
  rotate_left
  · have : a ≠ a' := fun e => h2 (by rw [e])
    simp [this]
  refine awp_loopL (β := List Pk) q [5, 3, 2] (fun don _ => [(5, .int .i64 don.length), (3, .ptr (some (h.length + 1, 0))), (2, .ptr (some (h.length, 0)))])
    (fun _ => h ++ [.row [.sl (q.map encK) .free, .sl (a.map encL) .free] 25, .row [.sl (q'.map encK) .free, .sl (a'.map encL) .free] 25]) (fun don rest b => q' = don ++ b ∧ b.length = rest.length) q' ?_ rfl ⟨rfl, by omega⟩ Ty.mixed (by kernel_rfl) ?_ ?_
  · simp (disch := omega) only [go_sem, bne_self_eq_false, beq_self_eq_true, true_and, and_true, decide_true, decide_false, wrap_i64, ↓reduceIte, Nat.reduceAdd, Nat.reduceSub, Nat.reduceMul, Nat.reduceEqDiff, Nat.reduceLeDiff, Int.reduceAdd, Int.reduceSub, Int.reduceNeg, Int.reduceLT, Int.reduceLE, Int.reduceEq, Int.reduceToNat, Nat.reduceMod]
  · rintro don x r b rfl ⟨rfl, hb⟩
    cases b with
    | nil => simp at hb
    | cons y b =>
    have hl3 := len_mid hq
    simp (disch := omega) only [go_sem, bne_self_eq_false, beq_self_eq_true, true_and, and_true, decide_true, decide_false, wrap_i64, ↓reduceIte, Nat.reduceAdd, Nat.reduceSub, Nat.reduceMul, Nat.reduceEqDiff, Nat.reduceLeDiff, Int.reduceAdd, Int.reduceSub, Int.reduceNeg, Int.reduceLT, Int.reduceLE, Int.reduceEq, Int.reduceToNat, Nat.reduceMod, List.map_append, List.map_cons, List.length_append]
    refine aIf.pos (by omega) ?_
    simp (disch := omega) only [go_sem, bne_self_eq_false, beq_self_eq_true, true_and, and_true, decide_true, decide_false, wrap_i64, ↓reduceIte, Nat.reduceAdd, Nat.reduceSub, Nat.reduceMul, Nat.reduceEqDiff, Nat.reduceLeDiff, Int.reduceAdd, Int.reduceSub, Int.reduceNeg, Int.reduceLT, Int.reduceLE, Int.reduceEq, Int.reduceToNat, Nat.reduceMod]
    refine aCallF.intro (fun _ => samepacket_calls Γ x y _) ?_
    simp (disch := omega) only [go_sem, bne_self_eq_false, beq_self_eq_true, true_and, and_true, decide_true, decide_false, wrap_i64, ↓reduceIte, Nat.reduceAdd, Nat.reduceSub, Nat.reduceMul, Nat.reduceEqDiff, Nat.reduceLeDiff, Int.reduceAdd, Int.reduceSub, Int.reduceNeg, Int.reduceLT, Int.reduceLE, Int.reduceEq, Int.reduceToNat, Nat.reduceMod]
    refine aIf.intro (fun hxy => ?_) (fun hxy => ?_) <;> simp (disch := omega) only [go_sem, bne_self_eq_false, beq_self_eq_true, true_and, and_true, decide_true, decide_false, wrap_i64, ↓reduceIte, Nat.reduceAdd, Nat.reduceSub, Nat.reduceMul, Nat.reduceEqDiff, Nat.reduceLeDiff, Int.reduceAdd, Int.reduceSub, Int.reduceNeg, Int.reduceLT, Int.reduceLE, Int.reduceEq, Int.reduceToNat, Nat.reduceMod]
    · subst hxy
      refine roundL_next b (by simpa using hb) ?_ (by simp)
      simp (disch := omega) only [go_sem, bne_self_eq_false, beq_self_eq_true, true_and, and_true, decide_true, decide_false, wrap_i64, ↓reduceIte, Nat.reduceAdd, Nat.reduceSub, Nat.reduceMul, Nat.reduceEqDiff, Nat.reduceLeDiff, Int.reduceAdd, Int.reduceSub, Int.reduceNeg, Int.reduceLT, Int.reduceLE, Int.reduceEq, Int.reduceToNat, Nat.reduceMod, List.length_append]
    · have : ¬ (don ++ x :: r = don ++ y :: b) := fun e => hxy (by simpa using (List.append_cancel_left e) |> fun e => (List.cons.inj e).1)
      simp [this]
  rintro b ⟨hb1, hb2⟩
  have hqq : q = q' := by
    have : b = [] := List.length_eq_zero_iff.1 hb2
    rw [hb1, this, List.append_nil]
  simp (disch := omega) only [go_sem, bne_self_eq_false, beq_self_eq_true, true_and, and_true, decide_true, decide_false, wrap_i64, ↓reduceIte, Nat.reduceAdd, Nat.reduceSub, Nat.reduceMul, Nat.reduceEqDiff, Nat.reduceLeDiff, Int.reduceAdd, Int.reduceSub, Int.reduceNeg, Int.reduceLT, Int.reduceLE, Int.reduceEq, Int.reduceToNat, Nat.reduceMod]
  refine AWP.keep [3, 2] (aCode_ok Ty.mixed _ _ _ _ (by kernel_rfl) ?_)
  simp (disch := omega) only [go_sem, bne_self_eq_false, beq_self_eq_true, true_and, and_true, decide_true, decide_false, wrap_i64, ↓reduceIte, Nat.reduceAdd, Nat.reduceSub, Nat.reduceMul, Nat.reduceEqDiff, Nat.reduceLeDiff, Int.reduceAdd, Int.reduceSub, Int.reduceNeg, Int.reduceLT, Int.reduceLE, Int.reduceEq, Int.reduceToNat, Nat.reduceMod]
  refine awp_loopL (β := List (Int × Int)) a [6, 3, 2] (fun don _ => [(6, .int .i64 don.length), (3, .ptr (some (h.length + 1, 0))), (2, .ptr (some (h.length, 0)))])
    (fun _ => h ++ [.row [.sl (q.map encK) .free, .sl (a.map encL) .free] 25, .row [.sl (q'.map encK) .free, .sl (a'.map encL) .free] 25]) (fun don rest b => a' = don ++ b ∧ b.length = rest.length) a' ?_ rfl ⟨rfl, by omega⟩ Ty.mixed (by kernel_rfl) ?_ ?_
  · simp (disch := omega) only [go_sem, bne_self_eq_false, beq_self_eq_true, true_and, and_true, decide_true, decide_false, wrap_i64, ↓reduceIte, Nat.reduceAdd, Nat.reduceSub, Nat.reduceMul, Nat.reduceEqDiff, Nat.reduceLeDiff, Int.reduceAdd, Int.reduceSub, Int.reduceNeg, Int.reduceLT, Int.reduceLE, Int.reduceEq, Int.reduceToNat, Nat.reduceMod]
  · rintro don x r b rfl ⟨rfl, hb⟩
    cases b with
    | nil => simp at hb
    | cons y b =>
    have hl3 := len_mid ha
    simp (disch := omega) only [go_sem, bne_self_eq_false, beq_self_eq_true, true_and, and_true, decide_true, decide_false, wrap_i64, ↓reduceIte, Nat.reduceAdd, Nat.reduceSub, Nat.reduceMul, Nat.reduceEqDiff, Nat.reduceLeDiff, Int.reduceAdd, Int.reduceSub, Int.reduceNeg, Int.reduceLT, Int.reduceLE, Int.reduceEq, Int.reduceToNat, Nat.reduceMod, List.map_append, List.map_cons, List.length_append]
    refine aIf.pos (by omega) ?_
    simp (disch := omega) only [go_sem, bne_self_eq_false, beq_self_eq_true, true_and, and_true, decide_true, decide_false, wrap_i64, ↓reduceIte, Nat.reduceAdd, Nat.reduceSub, Nat.reduceMul, Nat.reduceEqDiff, Nat.reduceLeDiff, Int.reduceAdd, Int.reduceSub, Int.reduceNeg, Int.reduceLT, Int.reduceLE, Int.reduceEq, Int.reduceToNat, Nat.reduceMod, encL, AV.cells]
    have hxy : (decide (x.1 = y.1) && decide (x.2 = y.2)) = decide (x = y) := by
      rw [Bool.eq_iff_iff]; simp [Prod.ext_iff]
    rw [hxy]
    simp (disch := omega) only [go_sem, bne_self_eq_false, beq_self_eq_true, true_and, and_true, decide_true, decide_false, wrap_i64, ↓reduceIte, Nat.reduceAdd, Nat.reduceSub, Nat.reduceMul, Nat.reduceEqDiff, Nat.reduceLeDiff, Int.reduceAdd, Int.reduceSub, Int.reduceNeg, Int.reduceLT, Int.reduceLE, Int.reduceEq, Int.reduceToNat, Nat.reduceMod]
    refine aIf.intro (fun e => ?_) (fun e => ?_) <;> simp (disch := omega) only [go_sem, bne_self_eq_false, beq_self_eq_true, true_and, and_true, decide_true, decide_false, wrap_i64, ↓reduceIte, Nat.reduceAdd, Nat.reduceSub, Nat.reduceMul, Nat.reduceEqDiff, Nat.reduceLeDiff, Int.reduceAdd, Int.reduceSub, Int.reduceNeg, Int.reduceLT, Int.reduceLE, Int.reduceEq, Int.reduceToNat, Nat.reduceMod]
    · subst e
      refine roundL_next b (by simpa using hb) ?_ (by simp [encL])
      simp (disch := omega) only [go_sem, bne_self_eq_false, beq_self_eq_true, true_and, and_true, decide_true, decide_false, wrap_i64, ↓reduceIte, Nat.reduceAdd, Nat.reduceSub, Nat.reduceMul, Nat.reduceEqDiff, Nat.reduceLeDiff, Int.reduceAdd, Int.reduceSub, Int.reduceNeg, Int.reduceLT, Int.reduceLE, Int.reduceEq, Int.reduceToNat, Nat.reduceMod, List.length_append]
    · have : ¬ (don ++ x :: r = don ++ y :: b) := fun e' => e (List.cons.inj (List.append_cancel_left e')).1
      simp [this]
  rintro c ⟨hc1, hc2⟩
  have haa : a = a' := by
    have : c = [] := List.length_eq_zero_iff.1 hc2
    rw [hc1, this, List.append_nil]
  simp (disch := omega) only [go_sem, bne_self_eq_false, beq_self_eq_true, true_and, and_true, decide_true, decide_false, wrap_i64, ↓reduceIte, Nat.reduceAdd, Nat.reduceSub, Nat.reduceMul, Nat.reduceEqDiff, Nat.reduceLeDiff, Int.reduceAdd, Int.reduceSub, Int.reduceNeg, Int.reduceLT, Int.reduceLE, Int.reduceEq, Int.reduceToNat, Nat.reduceMod]
  refine AWP.keep [3, 2] (aCode_ok Ty.mixed _ _ _ _ (by kernel_rfl) ?_)
  simp (disch := omega) only [go_sem, bne_self_eq_false, beq_self_eq_true, true_and, and_true, decide_true, decide_false, wrap_i64, ↓reduceIte, Nat.reduceAdd, Nat.reduceSub, Nat.reduceMul, Nat.reduceEqDiff, Nat.reduceLeDiff, Int.reduceAdd, Int.reduceSub, Int.reduceNeg, Int.reduceLT, Int.reduceLE, Int.reduceEq, Int.reduceToNat, Nat.reduceMod]
  simp [hqq, haa]
end Go.Proofs.Ytidmpembkkkhkaa
