/- The program's functions on formulas: what they hand back. No conditions. -/
import Derived.Test.YtopiamdfnaejeaaRefA
set_option linter.unusedSimpArgs false
set_option linter.unusedVariables false
namespace Go.Proofs.Ytopiamdfnaejeaa
open Go Go.Proofs Go.Abs

/-- Is there one of which a predicate with a state holds? -/
def anyS {α β : Type} (p : α → β → Bool × β) : List α → β → Bool × β
  | [], b => (false, b)
  | x :: r, b => if (p x b).1 then (true, (p x b).2) else anyS p r (p x b).2
def idxS {α β : Type} (p : α → β → Bool × β) : List α → Nat → β → Int × β
  | [], _, b => (-1, b)
  | x :: r, i, b => if (p x b).1 then (i, (p x b).2) else idxS p r (i + 1) (p x b).2
theorem idxS_any {α β : Type} (p : α → β → Bool × β) (l : List α) (i : Nat) (b : β) : (idxS p l i b).2 = (anyS p l b).2 ∧ (0 ≤ (idxS p l i b).1 ↔ (anyS p l b).1 = true) := by
  induction l generalizing i b with
  | nil => simp [idxS, anyS]
  | cons x r ih =>
    simp only [idxS, anyS]
    split
    · exact ⟨rfl, by simp⟩
    · exact ih _ _

set_option maxRecDepth 100000 in
theorem index_calls (Γ : Nat → Option (List AV)) {β : Type} (xs : List Gt) (hx : xs.length ≤ 9223372036854775807) (fn : FuncId) (fs cs : List AV) (hp : β → AH) (p : Gt → β → Bool × β) (inv : β → Prop)
    (H : ∀ x ∈ xs, ∀ b, inv b → ((p x b).1 = false → inv (p x b).2) ∧ ACalls Try.prog Γ fn (fs ++ encG x :: cs) (hp b) fun v h' => h' = hp (p x b).2 ∧ v = .bool (p x b).1) (b : β) (hb : inv b) :
    ACalls Try.prog Γ 129 [.sl (xs.map encG) .free, .func fn fs cs] (hp b) fun v h' => h' = hp (idxS p xs 0 b).2 ∧ v = .int .i64 (idxS p xs 0 b).1 := by
  refine acalls_code (rs := [.tmp 4]) Try.func129 rfl rfl rfl rfl Ty.mixed (by kernel_rfl) ?_
  simp (disch := omega) only [go_sem, bne_self_eq_false, beq_self_eq_true, true_and, and_true, decide_true, decide_false, wrap_i64, ↓reduceIte, Nat.reduceAdd, Nat.reduceSub, Nat.reduceMul, Nat.reduceEqDiff, Nat.reduceLeDiff, Int.reduceAdd, Int.reduceSub, Int.reduceNeg, Int.reduceLT, Int.reduceLE, Int.reduceEq, Int.reduceToNat, Nat.reduceMod]
  refine awp_loopL (β := β) xs [8, 7, 1, 0] (fun don _ => [(8, .int .i64 don.length), (7, .int .i64 xs.length), (1, .func fn fs cs), (0, .sl (xs.map encG) .free)])
      (fun b => hp b) (fun don rest b' => inv b' ∧ idxS p xs 0 b = idxS p rest don.length b') b ?_ rfl ⟨hb, rfl⟩ Ty.mixed (by kernel_rfl) ?_ ?_
  · simp (disch := omega) only [go_sem, bne_self_eq_false, beq_self_eq_true, true_and, and_true, decide_true, decide_false, wrap_i64, ↓reduceIte, Nat.reduceAdd, Nat.reduceSub, Nat.reduceMul, Nat.reduceEqDiff, Nat.reduceLeDiff, Int.reduceAdd, Int.reduceSub, Int.reduceNeg, Int.reduceLT, Int.reduceLE, Int.reduceEq, Int.reduceToNat, Nat.reduceMod]
  · rintro don x r b' rfl ⟨hi, hs⟩
    have hl3 := len_mid hx
    simp (disch := omega) only [go_sem, bne_self_eq_false, beq_self_eq_true, true_and, and_true, decide_true, decide_false, wrap_i64, ↓reduceIte, Nat.reduceAdd, Nat.reduceSub, Nat.reduceMul, Nat.reduceEqDiff, Nat.reduceLeDiff, Int.reduceAdd, Int.reduceSub, Int.reduceNeg, Int.reduceLT, Int.reduceLE, Int.reduceEq, Int.reduceToNat, Nat.reduceMod, List.map_append, List.map_cons, List.length_append]
    refine aIf.pos (by omega) ?_
    simp (disch := omega) only [go_sem, bne_self_eq_false, beq_self_eq_true, true_and, and_true, decide_true, decide_false, wrap_i64, ↓reduceIte, Nat.reduceAdd, Nat.reduceSub, Nat.reduceMul, Nat.reduceEqDiff, Nat.reduceLeDiff, Int.reduceAdd, Int.reduceSub, Int.reduceNeg, Int.reduceLT, Int.reduceLE, Int.reduceEq, Int.reduceToNat, Nat.reduceMod]
    obtain ⟨h1, h2⟩ := H x (by simp) b' hi
    refine ACalls.detH (h2.args (by simp)) ?_
    simp (disch := omega) only [go_sem, bne_self_eq_false, beq_self_eq_true, true_and, and_true, decide_true, decide_false, wrap_i64, ↓reduceIte, Nat.reduceAdd, Nat.reduceSub, Nat.reduceMul, Nat.reduceEqDiff, Nat.reduceLeDiff, Int.reduceAdd, Int.reduceSub, Int.reduceNeg, Int.reduceLT, Int.reduceLE, Int.reduceEq, Int.reduceToNat, Nat.reduceMod]
    refine aBr.intro (fun hb => ?_) (fun hb => ?_) <;> simp (disch := omega) only [go_sem, bne_self_eq_false, beq_self_eq_true, true_and, and_true, decide_true, decide_false, wrap_i64, ↓reduceIte, Nat.reduceAdd, Nat.reduceSub, Nat.reduceMul, Nat.reduceEqDiff, Nat.reduceLeDiff, Int.reduceAdd, Int.reduceSub, Int.reduceNeg, Int.reduceLT, Int.reduceLE, Int.reduceEq, Int.reduceToNat, Nat.reduceMod]
    · rw [hs, idxS, if_pos hb]; exact ⟨rfl, rfl⟩
    · refine roundL_next (p x b').2 ⟨h1 (by simpa using hb), by rw [hs, idxS, if_neg (by simp at hb; simp [hb])]; simp⟩ ?_ rfl
      simp (disch := omega) only [go_sem, bne_self_eq_false, beq_self_eq_true, true_and, and_true, decide_true, decide_false, wrap_i64, ↓reduceIte, Nat.reduceAdd, Nat.reduceSub, Nat.reduceMul, Nat.reduceEqDiff, Nat.reduceLeDiff, Int.reduceAdd, Int.reduceSub, Int.reduceNeg, Int.reduceLT, Int.reduceLE, Int.reduceEq, Int.reduceToNat, Nat.reduceMod, List.length_append, List.map_append, List.map_cons]
  · rintro b' ⟨_, hs⟩
    simp (disch := omega) only [go_sem, bne_self_eq_false, beq_self_eq_true, true_and, and_true, decide_true, decide_false, wrap_i64, ↓reduceIte, Nat.reduceAdd, Nat.reduceSub, Nat.reduceMul, Nat.reduceEqDiff, Nat.reduceLeDiff, Int.reduceAdd, Int.reduceSub, Int.reduceNeg, Int.reduceLT, Int.reduceLE, Int.reduceEq, Int.reduceToNat, Nat.reduceMod]
    refine AWP.keep [0] (aCode_ok Ty.mixed _ _ _ _ (by kernel_rfl) ?_)
    simp (disch := omega) only [go_sem, bne_self_eq_false, beq_self_eq_true, true_and, and_true, decide_true, decide_false, wrap_i64, ↓reduceIte, Nat.reduceAdd, Nat.reduceSub, Nat.reduceMul, Nat.reduceEqDiff, Nat.reduceLeDiff, Int.reduceAdd, Int.reduceSub, Int.reduceNeg, Int.reduceLT, Int.reduceLE, Int.reduceEq, Int.reduceToNat, Nat.reduceMod]
    rw [hs]; exact ⟨rfl, rfl⟩

set_option maxRecDepth 100000 in
theorem contains_calls (Γ : Nat → Option (List AV)) {β : Type} (xs : List Gt) (hx : xs.length ≤ 9223372036854775807) (fn : FuncId) (fs cs : List AV) (hp : β → AH) (p : Gt → β → Bool × β) (inv : β → Prop)
    (H : ∀ x ∈ xs, ∀ b, inv b → ((p x b).1 = false → inv (p x b).2) ∧ ACalls Try.prog Γ fn (fs ++ encG x :: cs) (hp b) fun v h' => h' = hp (p x b).2 ∧ v = .bool (p x b).1) (b : β) (hb : inv b) :
    ACalls Try.prog Γ 108 [.sl (xs.map encG) .free, .func fn fs cs] (hp b) fun v h' => h' = hp (anyS p xs b).2 ∧ v = .bool (anyS p xs b).1 := by
  refine acalls_code (rs := [.tmp 4]) Try.func108 rfl rfl rfl rfl Ty.mixed (by kernel_rfl) ?_
  simp (disch := omega) only [go_sem, bne_self_eq_false, beq_self_eq_true, true_and, and_true, decide_true, decide_false, wrap_i64, ↓reduceIte, Nat.reduceAdd, Nat.reduceSub, Nat.reduceMul, Nat.reduceEqDiff, Nat.reduceLeDiff, Int.reduceAdd, Int.reduceSub, Int.reduceNeg, Int.reduceLT, Int.reduceLE, Int.reduceEq, Int.reduceToNat, Nat.reduceMod]
  refine ACalls.detH (index_calls Γ xs hx fn fs cs hp p inv H b hb) ?_
  simp (disch := omega) only [go_sem, bne_self_eq_false, beq_self_eq_true, true_and, and_true, decide_true, decide_false, wrap_i64, ↓reduceIte, Nat.reduceAdd, Nat.reduceSub, Nat.reduceMul, Nat.reduceEqDiff, Nat.reduceLeDiff, Int.reduceAdd, Int.reduceSub, Int.reduceNeg, Int.reduceLT, Int.reduceLE, Int.reduceEq, Int.reduceToNat, Nat.reduceMod]
  have := idxS_any p xs 0 b
  refine ⟨by rw [this.1], ?_⟩
  congr 1
  rw [Bool.eq_iff_iff, ← this.2]; simp

/-! ### right -/
theorem anyS_unit (q : Gt → Bool) (l : List Gt) : (anyS (fun x (_ : Unit) => (q x, ())) l ()).1 = l.any q := by
  induction l with
  | nil => rfl
  | cons x r ih =>
    simp only [anyS, List.any_cons]
    cases q x <;> simp [ih]

set_option maxRecDepth 100000 in
theorem right_calls_k (Γ : Nat → Option (List AV)) : ∀ (k : Nat) (g : Gt) (h : AH), SizeOf.sizeOf g < k → Sh g → ACalls Try.prog Γ 85 [encG g] h fun v h' => h' = h ∧ v = .bool (rightF g)
  | 0, _, _, hk, _ => absurd hk (Nat.not_lt_zero _)
  | k + 1, .mk p n l, h, hsz, hs => by
    refine ACalls.drop ?_
    refine acalls_code (rs := [.tmp 2]) Try.func85 rfl rfl rfl rfl Ty.mixed (by kernel_rfl) ?_
    simp only [encG_mk]
    simp (disch := omega) only [go_sem, bne_self_eq_false, beq_self_eq_true, true_and, and_true, decide_true, decide_false, wrap_i64, ↓reduceIte, Nat.reduceAdd, Nat.reduceSub, Nat.reduceMul, Nat.reduceEqDiff, Nat.reduceLeDiff, Int.reduceAdd, Int.reduceSub, Int.reduceNeg, Int.reduceLT, Int.reduceLE, Int.reduceEq, Int.reduceToNat, Nat.reduceMod]
    have hl1 := hs.len
    have hl2 := hs.mem
    refine aIf.intro (fun hp => ?_) (fun hp => ?_) <;> simp (disch := omega) only [go_sem, bne_self_eq_false, beq_self_eq_true, true_and, and_true, decide_true, decide_false, wrap_i64, ↓reduceIte, Nat.reduceAdd, Nat.reduceSub, Nat.reduceMul, Nat.reduceEqDiff, Nat.reduceLeDiff, Int.reduceAdd, Int.reduceSub, Int.reduceNeg, Int.reduceLT, Int.reduceLE, Int.reduceEq, Int.reduceToNat, Nat.reduceMod]
    · refine aIf.intro (fun h1 => ?_) (fun h1 => ?_) <;> simp (disch := omega) only [go_sem, bne_self_eq_false, beq_self_eq_true, true_and, and_true, decide_true, decide_false, wrap_i64, ↓reduceIte, Nat.reduceAdd, Nat.reduceSub, Nat.reduceMul, Nat.reduceEqDiff, Nat.reduceLeDiff, Int.reduceAdd, Int.reduceSub, Int.reduceNeg, Int.reduceLT, Int.reduceLE, Int.reduceEq, Int.reduceToNat, Nat.reduceMod]
      · refine aIf.intro (fun h2 => ?_) (fun h2 => ?_) <;> simp (disch := omega) only [go_sem, bne_self_eq_false, beq_self_eq_true, true_and, and_true, decide_true, decide_false, wrap_i64, ↓reduceIte, Nat.reduceAdd, Nat.reduceSub, Nat.reduceMul, Nat.reduceEqDiff, Nat.reduceLeDiff, Int.reduceAdd, Int.reduceSub, Int.reduceNeg, Int.reduceLT, Int.reduceLE, Int.reduceEq, Int.reduceToNat, Nat.reduceMod]
        · cases l <;> simp [rightF, hp, h1, h2] <;> omega
        · simp [rightF, hp, h2]
      · simp [rightF, hp, h1]
    refine aIf.intro (fun h1 => ?_) (fun h1 => ?_) <;> simp (disch := omega) only [go_sem, bne_self_eq_false, beq_self_eq_true, true_and, and_true, decide_true, decide_false, wrap_i64, ↓reduceIte, Nat.reduceAdd, Nat.reduceSub, Nat.reduceMul, Nat.reduceEqDiff, Nat.reduceLeDiff, Int.reduceAdd, Int.reduceSub, Int.reduceNeg, Int.reduceLT, Int.reduceLE, Int.reduceEq, Int.reduceToNat, Nat.reduceMod]
    rotate_left
    · simp [rightF, hp, h1]
    refine aIf.intro (fun h2 => ?_) (fun h2 => ?_) <;> simp (disch := omega) only [go_sem, bne_self_eq_false, beq_self_eq_true, true_and, and_true, decide_true, decide_false, wrap_i64, ↓reduceIte, Nat.reduceAdd, Nat.reduceSub, Nat.reduceMul, Nat.reduceEqDiff, Nat.reduceLeDiff, Int.reduceAdd, Int.reduceSub, Int.reduceNeg, Int.reduceLT, Int.reduceLE, Int.reduceEq, Int.reduceToNat, Nat.reduceMod]
    rotate_left
    · subst h1; simp [rightF]; intros; omega
    refine aIf.intro (fun h3 => ?_) (fun h3 => ?_) <;> simp (disch := omega) only [go_sem, bne_self_eq_false, beq_self_eq_true, true_and, and_true, decide_true, decide_false, wrap_i64, ↓reduceIte, Nat.reduceAdd, Nat.reduceSub, Nat.reduceMul, Nat.reduceEqDiff, Nat.reduceLeDiff, Int.reduceAdd, Int.reduceSub, Int.reduceNeg, Int.reduceLT, Int.reduceLE, Int.reduceEq, Int.reduceToNat, Nat.reduceMod]
    rotate_left
    · subst h1; simp [rightF]; intros; omega
    have hb : rightF (.mk p n l) = l.all rightF := by simp [rightF, rightL_all, hp, show p = -1 by omega, show (1 : Int) ≤ n by omega, show n ≤ (4096 : Int) by omega]
    rw [hb]
    refine ACalls.detH (contains_calls Γ l hl1 110 [] [] (fun _ => _) (fun x (_ : Unit) => (!rightF x, ())) (fun _ => True) (fun x hx b _ => ⟨fun _ => trivial, ?_⟩) () trivial) ?_
    · refine ACalls.drop ?_
      refine acalls_code (rs := [.tmp 2]) Try.func110 rfl rfl rfl rfl Ty.mixed (by kernel_rfl) ?_
      simp (disch := omega) only [go_sem, bne_self_eq_false, beq_self_eq_true, true_and, and_true, decide_true, decide_false, wrap_i64, ↓reduceIte, Nat.reduceAdd, Nat.reduceSub, Nat.reduceMul, Nat.reduceEqDiff, Nat.reduceLeDiff, Int.reduceAdd, Int.reduceSub, Int.reduceNeg, Int.reduceLT, Int.reduceLE, Int.reduceEq, Int.reduceToNat, Nat.reduceMod]
      refine ACalls.det (right_calls_k Γ k x _ (mem_sz hx hsz) (hl2 x hx)) ?_
      simp (disch := omega) only [go_sem, bne_self_eq_false, beq_self_eq_true, true_and, and_true, decide_true, decide_false, wrap_i64, ↓reduceIte, Nat.reduceAdd, Nat.reduceSub, Nat.reduceMul, Nat.reduceEqDiff, Nat.reduceLeDiff, Int.reduceAdd, Int.reduceSub, Int.reduceNeg, Int.reduceLT, Int.reduceLE, Int.reduceEq, Int.reduceToNat, Nat.reduceMod]
    simp (disch := omega) only [go_sem, bne_self_eq_false, beq_self_eq_true, true_and, and_true, decide_true, decide_false, wrap_i64, ↓reduceIte, Nat.reduceAdd, Nat.reduceSub, Nat.reduceMul, Nat.reduceEqDiff, Nat.reduceLeDiff, Int.reduceAdd, Int.reduceSub, Int.reduceNeg, Int.reduceLT, Int.reduceLE, Int.reduceEq, Int.reduceToNat, Nat.reduceMod]
    rw [anyS_unit, List.any_eq_not_all_not]
    simp
set_option maxRecDepth 100000 in
theorem right_calls (Γ : Nat → Option (List AV)) (g : Gt) (h : AH) (hs : Sh g) : ACalls Try.prog Γ 85 [encG g] h fun v h' => h' = h ∧ v = .bool (rightF g) :=
  right_calls_k Γ _ g h (Nat.lt_succ_self _) hs

/-! ### large -/
mutual
def walkF : Nat → Gt → Int → Bool × Int
  | d, .mk _ _ l, n => if 16 < d then (true, n) else if l.isEmpty then (decide (n - 1 < 0), n - 1) else walkL (d + 1) l n
def walkL : Nat → List Gt → Int → Bool × Int
  | _, [], n => (false, n)
  | d, x :: r, n => if (walkF d x n).1 then (true, (walkF d x n).2) else walkL d r (walkF d x n).2
end
theorem walkL_any (d : Nat) (l : List Gt) (n : Int) : anyS (fun x n => walkF d x n) l n = walkL d l n := by
  induction l generalizing n with
  | nil => rfl
  | cons x r ih => simp only [anyS, walkL, ih]

mutual
theorem walkF_bd : ∀ (d : Nat) (g : Gt) (n : Int), 0 ≤ n → (walkF d g n).2 ≤ n ∧ -1 ≤ (walkF d g n).2 ∧ ((walkF d g n).1 = false → 0 ≤ (walkF d g n).2)
  | d, .mk _ _ l, n, h => by
    rw [walkF]
    split
    · simp; omega
    · split
      · simp; omega
      · exact walkL_bd (d + 1) l n h
theorem walkL_bd : ∀ (d : Nat) (l : List Gt) (n : Int), 0 ≤ n → (walkL d l n).2 ≤ n ∧ -1 ≤ (walkL d l n).2 ∧ ((walkL d l n).1 = false → 0 ≤ (walkL d l n).2)
  | d, [], n, h => by simp [walkL]; omega
  | d, x :: r, n, h => by
    have h1 := walkF_bd d x n h
    rw [walkL]
    split
    · rename_i hc; simp only; exact ⟨h1.1, h1.2.1, fun h => by cases h⟩
    · rename_i hc
      have h2 := walkL_bd d r _ (h1.2.2 (by simpa using hc))
      exact ⟨by omega, h2.2⟩
end

theorem kept_int (h : AH) (i : Nat) (n : Int) : LoopKept h (h.set i (.row [.int .i64 n] 3)) := LoopKept.set (show RBs h.length [.int .i64 n] from RBs.cons (.int _ _) (RBs.nil _)) (by simp)

def walkV (i j : Nat) : AV := .func 107 [] [.ptr (some (i, 0)), .ptr (some (j, 0))]

set_option maxRecDepth 100000 in
theorem walk_calls_k (Γ : Nat → Option (List AV)) : ∀ (k : Nat) (g : Gt) (d : Nat) (n : Int) (h : AH) (i j : Nat), SizeOf.sizeOf g < k → Sh g → d ≤ 17 → 0 ≤ n → n ≤ 1000000 → h[i]? = some (.row [.int .i64 n] 3) → h[j]? = some (.row [walkV i j] 121) →
    ACalls Try.prog Γ 107 [encG g, .int .i64 d, .ptr (some (i, 0)), .ptr (some (j, 0))] h fun v h' => h' = h.set i (.row [.int .i64 (walkF d g n).2] 3) ∧ v = .bool (walkF d g n).1
  | 0, _, _, _, _, _, _, hk, _, _, _, _, _, _ => absurd hk (Nat.not_lt_zero _)
  | k + 1, .mk p q l, d, n, h, i, j, hsz, hs, hd, hn1, hn2, hi, hj => by
    have hi' := hget_of hi
    have hj' := hget_of hj
    refine ACalls.dropAs (kept_int _ _ _) ?_
    refine acalls_code (rs := [.tmp 6]) Try.func107 rfl rfl rfl rfl Ty.mixed (by kernel_rfl) ?_
    simp only [encG_mk]
    simp (disch := omega) only [go_sem, bne_self_eq_false, beq_self_eq_true, true_and, and_true, decide_true, decide_false, wrap_i64, ↓reduceIte, Nat.reduceAdd, Nat.reduceSub, Nat.reduceMul, Nat.reduceEqDiff, Nat.reduceLeDiff, Int.reduceAdd, Int.reduceSub, Int.reduceNeg, Int.reduceLT, Int.reduceLE, Int.reduceEq, Int.reduceToNat, Nat.reduceMod]
    refine aIf.intro (fun h1 => ?_) (fun h1 => ?_) <;> simp (disch := omega) only [go_sem, bne_self_eq_false, beq_self_eq_true, true_and, and_true, decide_true, decide_false, wrap_i64, ↓reduceIte, Nat.reduceAdd, Nat.reduceSub, Nat.reduceMul, Nat.reduceEqDiff, Nat.reduceLeDiff, Int.reduceAdd, Int.reduceSub, Int.reduceNeg, Int.reduceLT, Int.reduceLE, Int.reduceEq, Int.reduceToNat, Nat.reduceMod]
    · have : walkF d (.mk p q l) n = (true, n) := by rw [walkF, if_pos (by omega)]
      rw [this, hset_same hi]
      simp (disch := omega) only [go_sem, bne_self_eq_false, beq_self_eq_true, true_and, and_true, decide_true, decide_false, wrap_i64, ↓reduceIte, Nat.reduceAdd, Nat.reduceSub, Nat.reduceMul, Nat.reduceEqDiff, Nat.reduceLeDiff, Int.reduceAdd, Int.reduceSub, Int.reduceNeg, Int.reduceLT, Int.reduceLE, Int.reduceEq, Int.reduceToNat, Nat.reduceMod]
    refine aIf.intro (fun h2 => ?_) (fun h2 => ?_) <;> simp (disch := omega) only [go_sem, bne_self_eq_false, beq_self_eq_true, true_and, and_true, decide_true, decide_false, wrap_i64, ↓reduceIte, Nat.reduceAdd, Nat.reduceSub, Nat.reduceMul, Nat.reduceEqDiff, Nat.reduceLeDiff, Int.reduceAdd, Int.reduceSub, Int.reduceNeg, Int.reduceLT, Int.reduceLE, Int.reduceEq, Int.reduceToNat, Nat.reduceMod]
    · have hl : l = [] := by cases l with
        | nil => rfl
        | cons x r => simp at h2; omega
      subst hl
      simp (disch := omega) only [go_sem, bne_self_eq_false, beq_self_eq_true, true_and, and_true, decide_true, decide_false, wrap_i64, ↓reduceIte, Nat.reduceAdd, Nat.reduceSub, Nat.reduceMul, Nat.reduceEqDiff, Nat.reduceLeDiff, Int.reduceAdd, Int.reduceSub, Int.reduceNeg, Int.reduceLT, Int.reduceLE, Int.reduceEq, Int.reduceToNat, Nat.reduceMod, hget_in, hi, hset_left, hget_setl]
      have : walkF d (.mk p q []) n = (decide (n - 1 < 0), n - 1) := by rw [walkF, if_neg (by omega)]; rfl
      simp only [this]
      simp (disch := omega) only [go_sem, bne_self_eq_false, beq_self_eq_true, true_and, and_true, decide_true, decide_false, wrap_i64, ↓reduceIte, Nat.reduceAdd, Nat.reduceSub, Nat.reduceMul, Nat.reduceEqDiff, Nat.reduceLeDiff, Int.reduceAdd, Int.reduceSub, Int.reduceNeg, Int.reduceLT, Int.reduceLE, Int.reduceEq, Int.reduceToNat, Nat.reduceMod]
    · have hl : l.isEmpty = false := by cases l with
        | nil => simp at h2
        | cons x r => rfl
      have hw : walkF d (.mk p q l) n = walkL (d + 1) l n := by rw [walkF, if_neg (by omega), hl]; simp
      have hij : i ≠ j := fun e => by subst e; rw [hi] at hj; simp [walkV] at hj
      generalize hH : h ++ [AObj.row [AV.int IntKind.i64 p, AV.int IntKind.i64 q, AV.sl (l.map encG) Own.free] 24, AObj.row [AV.int IntKind.i64 ↑d] 3] = H
      have Hi : H[i]? = some (.row [.int .i64 n] 3) := by subst hH; rw [hget_in _ hi']; exact hi
      have Hj : H[j]? = some (.row [walkV i j] 121) := by subst hH; rw [hget_in _ hj']; exact hj
      have Hd : H[h.length + 1]? = some (.row [.int .i64 d] 3) := by subst hH; simp
      have Hl := hget_of Hd
      refine ACalls.detH ((contains_calls Γ l hs.len 109 [] [.ptr (some (j, 0)), .ptr (some (h.length + 1, 0))] (fun b => H.set i (.row [.int .i64 b] 3)) (fun x b => walkF (d + 1) x b) (fun b => 0 ≤ b ∧ b ≤ 1000000)
        (fun x hx b hb => ⟨fun hc => ?_, ?_⟩) n ⟨hn1, hn2⟩).heap (hset_same Hi)) ?_
      · have := walkF_bd (d + 1) x b hb.1
        exact ⟨this.2.2 hc, by omega⟩
      · have e1 : ∀ o, (H.set i (.row [.int .i64 b] 3)).set i o = H.set i o := fun o => by simp
        have k1 : (H.set i (.row [.int .i64 b] 3))[i]? = some (.row [.int .i64 b] 3) := by rw [List.getElem?_set_self (by omega)]
        have k2 : (H.set i (.row [.int .i64 b] 3))[j]? = some (.row [walkV i j] 121) := by rw [List.getElem?_set_ne hij]; exact Hj
        have k3 : (H.set i (.row [.int .i64 b] 3))[h.length + 1]? = some (.row [.int .i64 d] 3) := by rw [List.getElem?_set_ne (by omega)]; exact Hd
        rw [← e1 (.row [.int .i64 (walkF (d + 1) x b).2] 3)]
        generalize H.set i (.row [.int .i64 b] 3) = H1 at k1 k2 k3 ⊢
        have m1 := hget_of k1
        have m2 := hget_of k2
        have m3 := hget_of k3
        refine ACalls.dropAs (kept_int _ _ _) ?_
        refine acalls_code (rs := [.tmp 4]) Try.func109 rfl rfl rfl rfl Ty.mixed (by kernel_rfl) ?_
        simp (disch := omega) only [go_sem, bne_self_eq_false, beq_self_eq_true, true_and, and_true, decide_true, decide_false, wrap_i64, ↓reduceIte, Nat.reduceAdd, Nat.reduceSub, Nat.reduceMul, Nat.reduceEqDiff, Nat.reduceLeDiff, Int.reduceAdd, Int.reduceSub, Int.reduceNeg, Int.reduceLT, Int.reduceLE, Int.reduceEq, Int.reduceToNat, Nat.reduceMod, hget_in, k1, k2, k3, walkV]
        refine ACalls.detH (walk_calls_k Γ k x (d + 1) b _ i j (mem_sz hx hsz) (hs.mem x hx) (by omega) hb.1 hb.2 (by rw [hget_in _ m1]; exact k1) (by rw [hget_in _ m2]; exact k2)) ?_
        simp (disch := omega) only [go_sem, bne_self_eq_false, beq_self_eq_true, true_and, and_true, decide_true, decide_false, wrap_i64, ↓reduceIte, Nat.reduceAdd, Nat.reduceSub, Nat.reduceMul, Nat.reduceEqDiff, Nat.reduceLeDiff, Int.reduceAdd, Int.reduceSub, Int.reduceNeg, Int.reduceLT, Int.reduceLE, Int.reduceEq, Int.reduceToNat, Nat.reduceMod, hset_left]
      · have e1 : ∀ v, H.set i (.row [.int .i64 v] 3) = h.set i (.row [.int .i64 v] 3) ++ _ := fun v => by rw [← hH, hset_left _ _ hi']
        rw [walkL_any]
        simp (disch := omega) only [go_sem, bne_self_eq_false, beq_self_eq_true, true_and, and_true, decide_true, decide_false, wrap_i64, ↓reduceIte, Nat.reduceAdd, Nat.reduceSub, Nat.reduceMul, Nat.reduceEqDiff, Nat.reduceLeDiff, Int.reduceAdd, Int.reduceSub, Int.reduceNeg, Int.reduceLT, Int.reduceLE, Int.reduceEq, Int.reduceToNat, Nat.reduceMod]
        rw [e1, hw]
        simp (disch := omega) only [go_sem, bne_self_eq_false, beq_self_eq_true, true_and, and_true, decide_true, decide_false, wrap_i64, ↓reduceIte, Nat.reduceAdd, Nat.reduceSub, Nat.reduceMul, Nat.reduceEqDiff, Nat.reduceLeDiff, Int.reduceAdd, Int.reduceSub, Int.reduceNeg, Int.reduceLT, Int.reduceLE, Int.reduceEq, Int.reduceToNat, Nat.reduceMod]
set_option maxRecDepth 100000 in
theorem walk_calls (Γ : Nat → Option (List AV)) (g : Gt) (d : Nat) (n : Int) (h : AH) (i j : Nat) (hs : Sh g) (hd : d ≤ 17) (h0 : 0 ≤ n) (h1 : n ≤ 1000000) (hi : h[i]? = some (.row [.int .i64 n] 3)) (hj : h[j]? = some (.row [walkV i j] 121)) :
    ACalls Try.prog Γ 107 [encG g, .int .i64 d, .ptr (some (i, 0)), .ptr (some (j, 0))] h fun v h' => h' = h.set i (.row [.int .i64 (walkF d g n).2] 3) ∧ v = .bool (walkF d g n).1 :=
  walk_calls_k Γ _ g d n h i j (Nat.lt_succ_self _) hs hd h0 h1 hi hj

set_option maxRecDepth 100000 in
theorem large_calls (Γ : Nat → Option (List AV)) (g : Gt) (h : AH) (hs : Sh g) : ACalls Try.prog Γ 84 [encG g] h fun v h' => h' = h ∧ v = .bool (walkF 1 g 256).1 := by
  refine ACalls.drop ?_
  refine acalls_code (rs := [.tmp 2]) Try.func84 rfl rfl rfl rfl Ty.mixed (by kernel_rfl) ?_
  simp (disch := omega) only [go_sem, bne_self_eq_false, beq_self_eq_true, true_and, and_true, decide_true, decide_false, wrap_i64, ↓reduceIte, Nat.reduceAdd, Nat.reduceSub, Nat.reduceMul, Nat.reduceEqDiff, Nat.reduceLeDiff, Int.reduceAdd, Int.reduceSub, Int.reduceNeg, Int.reduceLT, Int.reduceLE, Int.reduceEq, Int.reduceToNat, Nat.reduceMod]
  refine ACalls.detH (walk_calls Γ g 1 256 _ _ _ hs (by omega) (by omega) (by omega) (by simp (disch := omega) only [go_sem, bne_self_eq_false, beq_self_eq_true, true_and, and_true, decide_true, decide_false, wrap_i64, ↓reduceIte, Nat.reduceAdd, Nat.reduceSub, Nat.reduceMul, Nat.reduceEqDiff, Nat.reduceLeDiff, Int.reduceAdd, Int.reduceSub, Int.reduceNeg, Int.reduceLT, Int.reduceLE, Int.reduceEq, Int.reduceToNat, Nat.reduceMod]) (by simp (disch := omega) only [go_sem, bne_self_eq_false, beq_self_eq_true, true_and, and_true, decide_true, decide_false, wrap_i64, ↓reduceIte, Nat.reduceAdd, Nat.reduceSub, Nat.reduceMul, Nat.reduceEqDiff, Nat.reduceLeDiff, Int.reduceAdd, Int.reduceSub, Int.reduceNeg, Int.reduceLT, Int.reduceLE, Int.reduceEq, Int.reduceToNat, Nat.reduceMod, walkV])) ?_
  simp (disch := omega) only [go_sem, bne_self_eq_false, beq_self_eq_true, true_and, and_true, decide_true, decide_false, wrap_i64, ↓reduceIte, Nat.reduceAdd, Nat.reduceSub, Nat.reduceMul, Nat.reduceEqDiff, Nat.reduceLeDiff, Int.reduceAdd, Int.reduceSub, Int.reduceNeg, Int.reduceLT, Int.reduceLE, Int.reduceEq, Int.reduceToNat, Nat.reduceMod]

/-! ### what it says -/
mutual
def allLeaves : Gt → Int
  | .mk _ _ l => if l.isEmpty then 1 else allLeavesL l
def allLeavesL : List Gt → Int
  | [] => 0
  | x :: r => allLeaves x + allLeavesL r
end
mutual
theorem allLeaves_pos : ∀ g : Gt, 1 ≤ allLeaves g
  | .mk _ _ [] => by simp [allLeaves]
  | .mk _ _ (x :: r) => by
    have h1 := allLeaves_pos x
    have h2 := allLeavesL_pos r
    simp [allLeaves, allLeavesL]; omega
theorem allLeavesL_pos : ∀ l : List Gt, 0 ≤ allLeavesL l
  | [] => by simp [allLeavesL]
  | x :: r => by
    have h1 := allLeaves_pos x
    have h2 := allLeavesL_pos r
    simp [allLeavesL]; omega
end
mutual
theorem leaves_all : ∀ (g : Gt) (lim : Int), 0 ≤ lim → (leaves g lim ≤ lim ∧ leaves g lim = allLeaves g) ∨ (lim < leaves g lim ∧ lim < allLeaves g)
  | .mk _ _ [], lim, h => by simp [leaves, allLeaves]; omega
  | .mk _ _ (x :: r), lim, h => by
    have := leavesL_all (x :: r) lim 0 h (by omega) (by omega)
    simpa [leaves, allLeaves] using this
theorem leavesL_all : ∀ (l : List Gt) (lim n : Int), 0 ≤ lim → 0 ≤ n → n ≤ lim + 1 → (leavesL l lim n ≤ lim ∧ leavesL l lim n = n + allLeavesL l) ∨ (lim < leavesL l lim n ∧ lim < n + allLeavesL l)
  | [], lim, n, h, h0, h1 => by simp [leavesL, allLeavesL]; omega
  | x :: r, lim, n, h, h0, h1 => by
    simp only [leavesL, allLeavesL]
    have p2 := allLeavesL_pos r
    have p1 := allLeaves_pos x
    split
    · have a1 := leaves_all x (lim - n) (by omega)
      have a3 := leaves_bd x (lim - n) (by omega)
      have a2 := leavesL_all r lim (n + leaves x (lim - n)) h (by omega) (by omega)
      omega
    · omega
end
mutual
theorem walkF_iff : ∀ (g : Gt) (k d : Nat) (n : Int), d + k = 17 → 0 ≤ n → ((walkF d g n).1 = (deeperF k g || decide (n < allLeaves g)) ∧ ((walkF d g n).1 = false → (walkF d g n).2 = n - allLeaves g))
  | .mk p q l, 0, d, n, hk, hn => by
    rw [walkF, if_pos (by omega)]
    simp [deeperF]
  | .mk p q [], k + 1, d, n, hk, hn => by
    rw [walkF, if_neg (by omega)]
    refine ⟨?_, fun _ => ?_⟩
    · simp only [deeperF, Gt.l, allLeaves, List.isEmpty_nil, if_true, List.any_nil, Bool.false_or, decide_eq_decide]; omega
    · simp [allLeaves]
  | .mk p q (x :: r), k + 1, d, n, hk, hn => by
    rw [walkF, if_neg (by omega)]
    have := walkL_iff (x :: r) k (d + 1) n (by omega) hn
    simpa [deeperF, Gt.l, allLeaves] using this
theorem walkL_iff : ∀ (l : List Gt) (k d : Nat) (n : Int), d + k = 17 → 0 ≤ n → ((walkL d l n).1 = (l.any (deeperF k) || decide (n < allLeavesL l)) ∧ ((walkL d l n).1 = false → (walkL d l n).2 = n - allLeavesL l))
  | [], k, d, n, hk, hn => by
    refine ⟨?_, fun _ => by simp [walkL, allLeavesL]⟩
    have hx : allLeavesL [] = 0 := by simp [allLeavesL]
    simp only [walkL, List.any_nil, Bool.false_or]
    rw [eq_comm, decide_eq_false_iff_not]; omega
  | x :: r, k, d, n, hk, hn => by
    have hx : allLeavesL (x :: r) = allLeaves x + allLeavesL r := by simp [allLeavesL]
    obtain ⟨h1, h2⟩ := walkF_iff x k d n hk hn
    have h0 := walkF_bd d x n hn
    have p2 := allLeavesL_pos r
    rw [walkL]
    split
    · rename_i hc
      refine ⟨?_, fun h => by cases h⟩
      simp only [List.any_cons, allLeavesL]
      rw [h1] at hc
      simp at hc
      rcases hc with hc | hc
      · simp [hc]
      · simp [show n < allLeaves x + allLeavesL r by omega]
    · rename_i hc
      have hc : (walkF d x n).1 = false := by simpa using hc
      have e := h2 hc
      obtain ⟨h3, h4⟩ := walkL_iff r k d _ hk (h0.2.2 hc)
      rw [h1] at hc
      simp at hc
      refine ⟨?_, fun h => ?_⟩
      · rw [h3, e]; simp only [List.any_cons, hc.1, Bool.false_or]
        rw [Bool.eq_iff_iff]
        simp only [Bool.or_eq_true, decide_eq_true_eq]
        exact or_congr Iff.rfl (by omega)
      · rw [h4 h, e]; simp only [allLeavesL]; omega
end
theorem large_says (g : Gt) : (walkF 1 g 256).1 = (deeperF 16 g || decide (leaves g 256 > 256)) := by
  rw [(walkF_iff g 16 1 256 rfl (by omega)).1]
  have := leaves_all g 256 (by omega)
  congr 1
  rw [decide_eq_decide]; omega

set_option maxRecDepth 100000 in
theorem check_calls (Γ : Nat → Option (List AV)) (g : Gt) (h : AH) (hs : Sh g) : ACalls Try.prog Γ 55 [encG g] h fun v h' => h' = h ∧ v = .int .i64 (checkF g) := by
  refine ACalls.drop ?_
  refine acalls_code (rs := [.tmp 2]) Try.func55 rfl rfl rfl rfl Ty.mixed (by kernel_rfl) ?_
  simp (disch := omega) only [go_sem, bne_self_eq_false, beq_self_eq_true, true_and, and_true, decide_true, decide_false, wrap_i64, ↓reduceIte, Nat.reduceAdd, Nat.reduceSub, Nat.reduceMul, Nat.reduceEqDiff, Nat.reduceLeDiff, Int.reduceAdd, Int.reduceSub, Int.reduceNeg, Int.reduceLT, Int.reduceLE, Int.reduceEq, Int.reduceToNat, Nat.reduceMod]
  refine ACalls.det (large_calls Γ g _ hs) ?_
  rw [large_says]
  simp (disch := omega) only [go_sem, bne_self_eq_false, beq_self_eq_true, true_and, and_true, decide_true, decide_false, wrap_i64, ↓reduceIte, Nat.reduceAdd, Nat.reduceSub, Nat.reduceMul, Nat.reduceEqDiff, Nat.reduceLeDiff, Int.reduceAdd, Int.reduceSub, Int.reduceNeg, Int.reduceLT, Int.reduceLE, Int.reduceEq, Int.reduceToNat, Nat.reduceMod]
  refine aBr.intro (fun h1 => ?_) (fun h1 => ?_) <;> simp (disch := omega) only [go_sem, bne_self_eq_false, beq_self_eq_true, true_and, and_true, decide_true, decide_false, wrap_i64, ↓reduceIte, Nat.reduceAdd, Nat.reduceSub, Nat.reduceMul, Nat.reduceEqDiff, Nat.reduceLeDiff, Int.reduceAdd, Int.reduceSub, Int.reduceNeg, Int.reduceLT, Int.reduceLE, Int.reduceEq, Int.reduceToNat, Nat.reduceMod]
  · simp [checkF, h1]
  refine ACalls.det (right_calls Γ g _ hs) ?_
  simp (disch := omega) only [go_sem, bne_self_eq_false, beq_self_eq_true, true_and, and_true, decide_true, decide_false, wrap_i64, ↓reduceIte, Nat.reduceAdd, Nat.reduceSub, Nat.reduceMul, Nat.reduceEqDiff, Nat.reduceLeDiff, Int.reduceAdd, Int.reduceSub, Int.reduceNeg, Int.reduceLT, Int.reduceLE, Int.reduceEq, Int.reduceToNat, Nat.reduceMod]
  refine aBr.intro (fun h3 => ?_) (fun h3 => ?_) <;> simp (disch := omega) only [go_sem, bne_self_eq_false, beq_self_eq_true, true_and, and_true, decide_true, decide_false, wrap_i64, ↓reduceIte, Nat.reduceAdd, Nat.reduceSub, Nat.reduceMul, Nat.reduceEqDiff, Nat.reduceLeDiff, Int.reduceAdd, Int.reduceSub, Int.reduceNeg, Int.reduceLT, Int.reduceLE, Int.reduceEq, Int.reduceToNat, Nat.reduceMod]
  all_goals simp only [checkF, h1, h3]; rfl
end Go.Proofs.Ytopiamdfnaejeaa
