/- Subsets by masks: counting bits, the order of masks. No conditions. -/
import Derived.Test.YtopiamdfnaejeaaLivD
set_option linter.unusedSimpArgs false
set_option linter.unusedVariables false
namespace Go.Proofs.Ytopiamdfnaejeaa
open Go Go.Proofs Go.Abs

/-! ### Masks -/
/-- What a mask picks of a list: its first element is the mask's highest bit. -/
def pickF : List Int → Nat → List Int
  | [], _ => []
  | x :: r, m => if m / 2 ^ r.length % 2 = 1 then x :: pickF r m else pickF r m
def subsF : List Int → List (List Int)
  | [] => [[]]
  | x :: r => (subsF r).map (x :: ·) ++ subsF r
/-- Bits set below n. -/
def popF (m : Nat) : Nat → Nat
  | 0 => 0
  | n + 1 => m / 2 ^ n % 2 + popF m n
theorem pick_len (l : List Int) (m : Nat) : (pickF l m).length = popF m l.length := by
  induction l with
  | nil => rfl
  | cons x r ih =>
    have := Nat.mod_lt (m / 2 ^ r.length) (show 2 > 0 by decide)
    rw [pickF, List.length_cons, popF]
    split
    · rename_i h; rw [List.length_cons, ih, h, Nat.add_comm]
    · rename_i h; rw [ih]; omega
theorem pow_bit (m k n : Nat) (h : k < n) : (2 ^ n + m) / 2 ^ k % 2 = m / 2 ^ k % 2 := by
  obtain ⟨d, rfl⟩ : ∃ d, n = k + (d + 1) := ⟨n - k - 1, by omega⟩
  rw [Nat.pow_add, Nat.mul_comm, Nat.add_comm, Nat.add_mul_div_right _ _ (Nat.pow_pos (by decide)), Nat.pow_succ, Nat.mul_comm, Nat.add_mul_mod_self_left]
theorem pick_add (l : List Int) (m n : Nat) (h : l.length ≤ n) : pickF l (2 ^ n + m) = pickF l m := by
  induction l with
  | nil => rfl
  | cons x r ih =>
    simp only [List.length_cons] at h
    rw [pickF, pickF, pow_bit _ _ _ (by omega), ih (by omega)]
theorem pop_add (m n k : Nat) (h : k ≤ n) : popF (2 ^ n + m) k = popF m k := by
  induction k with
  | zero => rfl
  | succ k ih => rw [popF, popF, pow_bit _ _ _ (by omega), ih (by omega)]
theorem pop_more (m : Nat) : ∀ (k n : Nat), m < 2 ^ n → popF m (n + k) = popF m n
  | 0, n, h => rfl
  | k + 1, n, h => by
    rw [← Nat.add_assoc, popF, pop_more m k n h, Nat.div_eq_of_lt (Nat.lt_of_lt_of_le h (Nat.pow_le_pow_right (by decide) (by omega)))]
    simp
theorem downs (n k : Nat) : (List.range (n + k)).reverse = ((List.range k).reverse.map (n + ·)) ++ (List.range n).reverse := by
  rw [List.range_add, List.reverse_append, List.map_reverse]
theorem subs_masks (l : List Int) : (List.range (2 ^ l.length)).reverse.map (pickF l) = subsF l := by
  induction l with
  | nil => rfl
  | cons x r ih =>
    rw [List.length_cons, Nat.pow_succ, Nat.mul_two, downs, List.map_append, subsF, ← ih, List.map_map, List.map_map]
    congr 1
    · apply List.map_congr_left
      intro m hm
      simp only [List.mem_reverse, List.mem_range] at hm
      simp only [Function.comp, pickF]
      rw [if_pos, pick_add r m _ (Nat.le_refl _)]
      rw [Nat.add_div_left _ (Nat.pow_pos (by decide)), Nat.div_eq_of_lt hm]
    · apply List.map_congr_left
      intro m hm
      simp only [List.mem_reverse, List.mem_range] at hm
      rw [pickF, if_neg]
      rw [Nat.div_eq_of_lt hm]; decide
theorem subs_choose : ∀ (l : List Int) (k : Nat), (subsF l).filter (fun s => decide (s.length = k)) = chooseF l k
  | [], 0 => rfl
  | [], k + 1 => rfl
  | x :: r, 0 => by
    rw [subsF, List.filter_append, subs_choose r 0, List.filter_map]
    rw [show ((fun s : List Int => decide (s.length = 0)) ∘ fun s => x :: s) = fun _ => false from by funext s; simp]
    cases r <;> simp [chooseF]
  | x :: r, k + 1 => by
    rw [subsF, List.filter_append, subs_choose r (k + 1), List.filter_map]
    rw [show ((fun s : List Int => decide (s.length = k + 1)) ∘ fun s => x :: s) = fun s => decide (s.length = k) from by funext s; simp, subs_choose r k, chooseF]
/-- The subsets of one size, by masks from the highest. -/
theorem choose_masks (l : List Int) (k : Nat) : ((List.range (2 ^ l.length)).reverse.map (pickF l)).filter (fun s => decide (s.length = k)) = chooseF l k := by rw [subs_masks, subs_choose]

/-! ### Counting bits -/
def onA (a : Int) : Int := IntKind.u64.wrap (bitsOp .and .u64 (a.fdiv (2 ^ min 1 64)) 6148914691236517205 + bitsOp .and .u64 a 6148914691236517205)
def onB (a : Int) : Int := IntKind.u64.wrap (bitsOp .and .u64 (a.fdiv (2 ^ min 2 64)) 3689348814741910323 + bitsOp .and .u64 a 3689348814741910323)
def onC (a : Int) : Int := bitsOp .and .u64 (IntKind.u64.wrap (a.fdiv (2 ^ min 4 64) + a)) 1085102592571150095
def onD (k : Nat) (a : Int) : Int := IntKind.u64.wrap (a + a.fdiv (2 ^ min k 64))
def onE (a : Int) : Int := bitsOp .and .i64 (IntKind.i64.wrap a) 127
def onesI (a : Int) : Int := onE (onD 32 (onD 16 (onD 8 (onC (onB (onA a))))))
theorem ones_pop2 : ∀ a b : Fin 64, onesI ((64 * a.val + b.val : Nat) : Int) = popF (64 * a.val + b.val) 12 := by decide +kernel
theorem ones_pop (m : Nat) (hm : m < 4096) : onesI (m : Int) = popF m 12 := by
  have := ones_pop2 ⟨m / 64, by omega⟩ ⟨m % 64, by omega⟩
  simp only [Nat.div_add_mod] at this
  exact this
set_option maxRecDepth 100000 in
theorem ones64_calls (Γ : Nat → Option (List AV)) (m : Nat) (h : AH) (hm : m < 4096) : ACalls Try.prog Γ 105 [.int .u64 m] h fun v h' => h' = h ∧ v = .int .i64 (popF m 12) := by
  rw [← ones_pop m hm]
  refine acalls_code (rs := [.tmp 2]) Try.func105 rfl rfl rfl rfl Ty.mixed (by kernel_rfl) ?_
  simp (disch := omega) only [go_sem, bne_self_eq_false, beq_self_eq_true, true_and, and_true, decide_true, decide_false, wrap_i64, ↓reduceIte, Nat.reduceAdd, Nat.reduceSub, Nat.reduceMul, Nat.reduceEqDiff, Nat.reduceLeDiff, Int.reduceAdd, Int.reduceSub, Int.reduceNeg, Int.reduceLT, Int.reduceLE, Int.reduceEq, Int.reduceToNat, Nat.reduceMod]
  rfl
set_option maxRecDepth 100000 in
theorem ones_calls (Γ : Nat → Option (List AV)) (m : Nat) (h : AH) (hm : m < 4096) : ACalls Try.prog Γ 81 [.int .u64 m] h fun v h' => h' = h ∧ v = .int .i64 (popF m 12) := by
  refine acalls_code (rs := [.tmp 2]) Try.func81 rfl rfl rfl rfl Ty.mixed (by kernel_rfl) ?_
  simp (disch := omega) only [go_sem, bne_self_eq_false, beq_self_eq_true, true_and, and_true, decide_true, decide_false, wrap_i64, ↓reduceIte, Nat.reduceAdd, Nat.reduceSub, Nat.reduceMul, Nat.reduceEqDiff, Nat.reduceLeDiff, Int.reduceAdd, Int.reduceSub, Int.reduceNeg, Int.reduceLT, Int.reduceLE, Int.reduceEq, Int.reduceToNat, Nat.reduceMod]
  refine ACalls.det (ones64_calls Γ m _ hm) ?_
  simp (disch := omega) only [go_sem, bne_self_eq_false, beq_self_eq_true, true_and, and_true, decide_true, decide_false, wrap_i64, ↓reduceIte, Nat.reduceAdd, Nat.reduceSub, Nat.reduceMul, Nat.reduceEqDiff, Nat.reduceLeDiff, Int.reduceAdd, Int.reduceSub, Int.reduceNeg, Int.reduceLT, Int.reduceLE, Int.reduceEq, Int.reduceToNat, Nat.reduceMod]

/-! ### Code with a label through which no goto goes -/
section
variable {P : Program} {F : Fence} {n : Nat} {b : Frame} {a : Act} {k : List Item} {cs : List Frame} {w : World}
theorem stepR_scope {c : Code} : step P (lone (b.atR a (.code (.scope c) :: k)) cs w) = .next (lone (b.atR a (.code c :: .inScope c :: k)) cs w) :=
  step_lone_go (by simp [stepG, stepG.exec, Frame.atR])
theorem stepR_inScope {c : Code} : step P (lone (b.atR a (.inScope c :: k)) cs w) = .next (lone (b.atR a k) cs w) :=
  step_lone_go (by simp [stepG, stepG.exec, Frame.atR])
theorem wpIn_scope {c : Code} {Q : Exit → Act → World → Prop} (h : c.wpIn F n P (Exit.noGoto Q) a w) : (Code.scope c).wpIn F n P Q a w := by
  intro b k cs hro hb hr
  have h0 : (lone (b.atR a (.code (.scope c) :: k)) cs w).fenced P F := fenced_calm hb hr rfl
  obtain ⟨e, a₁, w₁, hq, harr⟩ := h b (.inScope c :: k) cs hro hb hr
  cases e with
  | normal => exact ⟨.normal, a₁, w₁, hq, .head h0 stepR_scope (StepsIn.trans harr (.one (fenced_calm hb hr rfl) stepR_inScope))⟩
  | exit id' =>
    have hx : exitTo id' (.inScope c :: k) = exitTo id' k := by simp [exitTo]
    exact ⟨.exit id', a₁, w₁, hq, fun k' hk => .head h0 stepR_scope (harr.1 k' (by rw [hx]; exact hk)),
        fun hr' hk => let ⟨k₁, h1, h2⟩ := harr.2 hr' (by rw [hx]; exact hk); ⟨k₁, h1, .head h0 stepR_scope h2⟩⟩
  | goto l => exact hq.elim
  | ret => exact ⟨_, a₁, w₁, hq, .of_steps (.one h0 stepR_scope) harr⟩
  | panic ch => exact ⟨_, a₁, w₁, hq, .of_steps (.one h0 stepR_scope) harr⟩
  | outgrown => exact ⟨_, a₁, w₁, hq, .of_steps (.one h0 stepR_scope) harr⟩
/-- No goto leaves. -/
def scopeA (Q : Exit → Tm → AH → Prop) : Exit → Tm → AH → Prop
  | .goto _, _, _ => False
  | e, σ, h => Q e σ h
@[go_sem] theorem scopeA_normal (Q : Exit → Tm → AH → Prop) (σ : Tm) (h : AH) : scopeA Q .normal σ h = Q .normal σ h := (rfl)
@[go_sem] theorem scopeA_ret (Q : Exit → Tm → AH → Prop) (σ : Tm) (h : AH) : scopeA Q .ret σ h = Q .ret σ h := (rfl)
@[go_sem] theorem scopeA_exit (Q : Exit → Tm → AH → Prop) (i : Nat) (σ : Tm) (h : AH) : scopeA Q (.exit i) σ h = Q (.exit i) σ h := (rfl)
theorem awp_scope {Γ : Nat → Option (List AV)} {N : Nat} {c : Code} {Q : Exit → Tm → AH → Prop} {σ : Tm} {h : AH} (H : AWP P Γ N c (scopeA Q) σ h) : AWP P Γ N (.scope c) Q σ h := fun r G w a hr hI ht => by
  refine wpIn_scope (wpIn_mono (H r G w a hr hI ht) fun e a' w' hp => ?_)
  cases e with
  | goto l => obtain ⟨G', σ', h', Ds, h1, h2, h3, h4, h5, h6, h7⟩ := hp; exact h7.elim
  | _ => exact hp
end
end Go.Proofs.Ytopiamdfnaejeaa
