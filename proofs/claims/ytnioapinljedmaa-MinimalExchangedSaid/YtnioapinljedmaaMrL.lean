/- Texts joined: LivE, LivF, LivG, LivH, LivI. No conditions. -/
import Derived.Test.YtnioapinljedmaaMrK
/- Subsets by masks: counting bits, the order of masks. No conditions. -/
set_option linter.unusedSimpArgs false
set_option linter.unusedVariables false
namespace Go.Proofs.Ytnioapinljedmaa
open Go Go.Proofs Go.Abs

/-! ### Masks -/
/-- What a mask picks of a list: its first element is the mask's highest bit. -/
def pickF : List Int → Nat → List Int
  | [], _ => []
  | x :: r, m => if m / 2 ^ r.length % 2 = 1 then x :: pickF r m else pickF r m
def subsF : List Int → List (List Int)
  | [] => [[]]
  | x :: r => (subsF r).map (x :: ·) ++ subsF r
/-- Bits set below n. -/
def popF (m : Nat) : Nat → Nat
  | 0 => 0
  | n + 1 => m / 2 ^ n % 2 + popF m n
theorem pick_len (l : List Int) (m : Nat) : (pickF l m).length = popF m l.length := by
  induction l with
  | nil => rfl
  | cons x r ih =>
    have := Nat.mod_lt (m / 2 ^ r.length) (show 2 > 0 by decide)
    rw [pickF, List.length_cons, popF]
    split
    · rename_i h; rw [List.length_cons, ih, h, Nat.add_comm]
    · rename_i h; rw [ih]; omega
theorem pow_bit (m k n : Nat) (h : k < n) : (2 ^ n + m) / 2 ^ k % 2 = m / 2 ^ k % 2 := by
  obtain ⟨d, rfl⟩ : ∃ d, n = k + (d + 1) := ⟨n - k - 1, by omega⟩
  rw [Nat.pow_add, Nat.mul_comm, Nat.add_comm, Nat.add_mul_div_right _ _ (Nat.pow_pos (by decide)), Nat.pow_succ, Nat.mul_comm, Nat.add_mul_mod_self_left]
theorem pick_add (l : List Int) (m n : Nat) (h : l.length ≤ n) : pickF l (2 ^ n + m) = pickF l m := by
  induction l with
  | nil => rfl
  | cons x r ih =>
    simp only [List.length_cons] at h
    rw [pickF, pickF, pow_bit _ _ _ (by omega), ih (by omega)]
theorem pop_add (m n k : Nat) (h : k ≤ n) : popF (2 ^ n + m) k = popF m k := by
  induction k with
  | zero => rfl
  | succ k ih => rw [popF, popF, pow_bit _ _ _ (by omega), ih (by omega)]
theorem pop_more (m : Nat) : ∀ (k n : Nat), m < 2 ^ n → popF m (n + k) = popF m n
  | 0, n, h => rfl
  | k + 1, n, h => by
    rw [← Nat.add_assoc, popF, pop_more m k n h, Nat.div_eq_of_lt (Nat.lt_of_lt_of_le h (Nat.pow_le_pow_right (by decide) (by omega)))]
    simp
theorem downs (n k : Nat) : (List.range (n + k)).reverse = ((List.range k).reverse.map (n + ·)) ++ (List.range n).reverse := by
  rw [List.range_add, List.reverse_append, List.map_reverse]
theorem subs_masks (l : List Int) : (List.range (2 ^ l.length)).reverse.map (pickF l) = subsF l := by
  induction l with
  | nil => rfl
  | cons x r ih =>
    rw [List.length_cons, Nat.pow_succ, Nat.mul_two, downs, List.map_append, subsF, ← ih, List.map_map, List.map_map]
    congr 1
    · apply List.map_congr_left
      intro m hm
      simp only [List.mem_reverse, List.mem_range] at hm
      simp only [Function.comp, pickF]
      rw [if_pos, pick_add r m _ (Nat.le_refl _)]
      rw [Nat.add_div_left _ (Nat.pow_pos (by decide)), Nat.div_eq_of_lt hm]
    · apply List.map_congr_left
      intro m hm
      simp only [List.mem_reverse, List.mem_range] at hm
      rw [pickF, if_neg]
      rw [Nat.div_eq_of_lt hm]; decide
theorem subs_choose : ∀ (l : List Int) (k : Nat), (subsF l).filter (fun s => decide (s.length = k)) = chooseF l k
  | [], 0 => rfl
  | [], k + 1 => rfl
  | x :: r, 0 => by
    rw [subsF, List.filter_append, subs_choose r 0, List.filter_map]
    rw [show ((fun s : List Int => decide (s.length = 0)) ∘ fun s => x :: s) = fun _ => false from by funext s; simp]
    cases r <;> simp [chooseF]
  | x :: r, k + 1 => by
    rw [subsF, List.filter_append, subs_choose r (k + 1), List.filter_map]
    rw [show ((fun s : List Int => decide (s.length = k + 1)) ∘ fun s => x :: s) = fun s => decide (s.length = k) from by funext s; simp, subs_choose r k, chooseF]
/-- The subsets of one size, by masks from the highest. -/
theorem choose_masks (l : List Int) (k : Nat) : ((List.range (2 ^ l.length)).reverse.map (pickF l)).filter (fun s => decide (s.length = k)) = chooseF l k := by rw [subs_masks, subs_choose]

/-! ### Counting bits -/
def onA (a : Int) : Int := IntKind.u64.wrap (bitsOp .and .u64 (a.fdiv (2 ^ min 1 64)) 6148914691236517205 + bitsOp .and .u64 a 6148914691236517205)
def onB (a : Int) : Int := IntKind.u64.wrap (bitsOp .and .u64 (a.fdiv (2 ^ min 2 64)) 3689348814741910323 + bitsOp .and .u64 a 3689348814741910323)
def onC (a : Int) : Int := bitsOp .and .u64 (IntKind.u64.wrap (a.fdiv (2 ^ min 4 64) + a)) 1085102592571150095
def onD (k : Nat) (a : Int) : Int := IntKind.u64.wrap (a + a.fdiv (2 ^ min k 64))
def onE (a : Int) : Int := bitsOp .and .i64 (IntKind.i64.wrap a) 127
def onesI (a : Int) : Int := onE (onD 32 (onD 16 (onD 8 (onC (onB (onA a))))))
theorem ones_pop2 : ∀ a b : Fin 64, onesI ((64 * a.val + b.val : Nat) : Int) = popF (64 * a.val + b.val) 12 := by decide +kernel
theorem ones_pop (m : Nat) (hm : m < 4096) : onesI (m : Int) = popF m 12 := by
  have := ones_pop2 ⟨m / 64, by omega⟩ ⟨m % 64, by omega⟩
  simp only [Nat.div_add_mod] at this
  exact this
set_option maxRecDepth 100000 in
theorem ones64_calls (Γ : Nat → Option (List AV)) (m : Nat) (h : AH) (hm : m < 4096) : ACalls Try.prog Γ 105 [.int .u64 m] h fun v h' => h' = h ∧ v = .int .i64 (popF m 12) := by
  rw [← ones_pop m hm]
  refine acalls_code (rs := [.tmp 2]) Try.func105 rfl rfl rfl rfl Ty.mixed (by kernel_rfl) ?_
  simp (disch := omega) only [go_sem, seval]
  rfl
set_option maxRecDepth 100000 in
theorem ones_calls (Γ : Nat → Option (List AV)) (m : Nat) (h : AH) (hm : m < 4096) : ACalls Try.prog Γ 81 [.int .u64 m] h fun v h' => h' = h ∧ v = .int .i64 (popF m 12) := by
  refine acalls_code (rs := [.tmp 2]) Try.func81 rfl rfl rfl rfl Ty.mixed (by kernel_rfl) ?_
  simp (disch := omega) only [go_sem, seval]
  refine ACalls.det (ones64_calls Γ m _ hm) ?_
  simp (disch := omega) only [go_sem, seval]

/-! ### Code with a label through which no goto goes -/
section
variable {P : Program} {F : Fence} {n : Nat} {b : Frame} {a : Act} {k : List Item} {cs : List Frame} {w : World}
theorem stepR_scope {c : Code} : step P (lone (b.atR a (.code (.scope c) :: k)) cs w) = .next (lone (b.atR a (.code c :: .inScope c :: k)) cs w) :=
  step_lone_go (by simp [stepG, stepG.exec, Frame.atR])
theorem stepR_inScope {c : Code} : step P (lone (b.atR a (.inScope c :: k)) cs w) = .next (lone (b.atR a k) cs w) :=
  step_lone_go (by simp [stepG, stepG.exec, Frame.atR])
theorem wpIn_scope {c : Code} {Q : Exit → Act → World → Prop} (h : c.wpIn F n P (Exit.noGoto Q) a w) : (Code.scope c).wpIn F n P Q a w := by
  intro b k cs hro hb hr
  have h0 : (lone (b.atR a (.code (.scope c) :: k)) cs w).fenced P F := fenced_calm hb hr rfl
  obtain ⟨e, a₁, w₁, hq, harr⟩ := h b (.inScope c :: k) cs hro hb hr
  cases e with
  | normal => exact ⟨.normal, a₁, w₁, hq, .head h0 stepR_scope (StepsIn.trans harr (.one (fenced_calm hb hr rfl) stepR_inScope))⟩
  | exit id' =>
    have hx : exitTo id' (.inScope c :: k) = exitTo id' k := by simp [exitTo]
    exact ⟨.exit id', a₁, w₁, hq, fun k' hk => .head h0 stepR_scope (harr.1 k' (by rw [hx]; exact hk)),
        fun hr' hk => let ⟨k₁, h1, h2⟩ := harr.2 hr' (by rw [hx]; exact hk); ⟨k₁, h1, .head h0 stepR_scope h2⟩⟩
  | goto l => exact hq.elim
  | ret => exact ⟨_, a₁, w₁, hq, .of_steps (.one h0 stepR_scope) harr⟩
  | panic ch => exact ⟨_, a₁, w₁, hq, .of_steps (.one h0 stepR_scope) harr⟩
  | outgrown => exact ⟨_, a₁, w₁, hq, .of_steps (.one h0 stepR_scope) harr⟩
/-- No goto leaves. -/
def scopeA (Q : Exit → Tm → AH → Prop) : Exit → Tm → AH → Prop
  | .goto _, _, _ => False
  | e, σ, h => Q e σ h
@[go_sem] theorem scopeA_normal (Q : Exit → Tm → AH → Prop) (σ : Tm) (h : AH) : scopeA Q .normal σ h = Q .normal σ h := (rfl)
@[go_sem] theorem scopeA_ret (Q : Exit → Tm → AH → Prop) (σ : Tm) (h : AH) : scopeA Q .ret σ h = Q .ret σ h := (rfl)
@[go_sem] theorem scopeA_exit (Q : Exit → Tm → AH → Prop) (i : Nat) (σ : Tm) (h : AH) : scopeA Q (.exit i) σ h = Q (.exit i) σ h := (rfl)
theorem awp_scope {Γ : Nat → Option (List AV)} {N : Nat} {c : Code} {Q : Exit → Tm → AH → Prop} {σ : Tm} {h : AH} (H : AWP P Γ N c (scopeA Q) σ h) : AWP P Γ N (.scope c) Q σ h := fun r G w a hr hI ht => by
  refine wpIn_scope (wpIn_mono (H r G w a hr hI ht) fun e a' w' hp => ?_)
  cases e with
  | goto l => obtain ⟨G', σ', h', Ds, h1, h2, h3, h4, h5, h6, h7⟩ := hp; exact h7.elim
  | _ => exact hp
end
end Go.Proofs.Ytnioapinljedmaa

/- The first subset that passes. No conditions. -/
set_option linter.unusedSimpArgs false
set_option linter.unusedVariables false
namespace Go.Proofs.Ytnioapinljedmaa
open Go Go.Proofs Go.Abs

theorem and_one (q : Nat) (hq : q < 4096) : bitsOp .and .i64 (q : Int) 1 = (q % 2 : Nat) := by
  have h1 : (BitVec.ofInt 64 (q : Int) &&& BitVec.ofInt 64 1).toNat = q % 2 := by
    rw [BitVec.toNat_and, show (BitVec.ofInt 64 1).toNat = 1 from rfl, BitVec.ofInt_natCast, BitVec.toNat_ofNat, Nat.and_one_is_mod]
    omega
  show IntKind.i64.wrap ((BitVec.ofInt 64 (q : Int) &&& BitVec.ofInt 64 1).toNat : Int) = _
  rw [h1, IntWalk.i64_in _ ⟨by omega, by omega⟩]
theorem fdiv_pow (m k : Nat) : ((m : Int).fdiv (2 ^ k)) = ((m / 2 ^ k : Nat) : Int) := by
  rw [Int.fdiv_eq_ediv_of_nonneg _ (Int.le_of_lt (Int.pow_pos (by decide)))]
  simp
def fromF (l : List Int) : Nat → Nat → List (List Int)
  | _, 0 => []
  | i, c + 1 => chooseF l i ++ fromF l (i + 1) c
theorem from_all (l : List Int) : ∀ (c i : Nat), (List.range' i c).flatMap (chooseF l) = fromF l i c
  | 0, i => rfl
  | c + 1, i => by rw [List.range'_succ, List.flatMap_cons, from_all l c (i + 1), fromF]
theorem all_from (l : List Int) : allF l = fromF l 0 (l.length + 1) := by rw [← from_all, ← List.range_eq_range']; rfl
/-- The masks below a number, of one size, from the highest. -/
def masksF (l : List Int) (i m : Nat) : List (List Int) := ((List.range m).reverse.map (pickF l)).filter fun s => decide (s.length = i)
theorem masks_all (l : List Int) (i : Nat) : masksF l i (2 ^ l.length) = chooseF l i := choose_masks l i
theorem masks_succ (l : List Int) (i m : Nat) : masksF l i (m + 1) = (if (pickF l m).length = i then [pickF l m] else []) ++ masksF l i m := by
  rw [masksF, List.range_succ, List.reverse_append, List.map_append, List.filter_append]
  congr 1
  simp only [List.reverse_cons, List.reverse_nil, List.nil_append, List.map_cons, List.map_nil, List.filter_cons, List.filter_nil, decide_eq_true_eq]
def firstB (r : Option (List Int)) : AV := match r with
  | some s => .tuple [.sl (encI s) .free, .bool true]
  | none => .tuple [.sl [] .free, .bool false]
theorem app4 {α : Type} (h j : List α) (a b c d : α) : h ++ a :: b :: c :: d :: j = (h ++ [a, b, c]) ++ d :: j := by simp
structure SbS where
  m : Nat
  j : AH
set_option maxRecDepth 100000 in
theorem first_calls (Γ : Nat → Option (List AV)) (l : List Int) (p : List Int → Bool) (fn : FuncId) (fs cs : List AV) (h : AH) (hl : l.length ≤ 12)
    (H : ∀ (j : AH) (s : List Int), s.length ≤ 12 → ACalls Try.prog Γ fn (fs ++ .sl (encI s) .free :: cs) (h ++ j) fun v h' => h' = h ++ j ∧ v = .bool (p s)) :
    ACalls Try.prog Γ 48 [.func 80 [] [.eptr [.sl (encI l) .free]], .func fn fs cs] h fun v h' => h' = h ∧ v = firstB ((allF l).find? p) := by
  refine ACalls.dropL ?_
  refine acalls_code (rs := [.cell 4 25, .cell 5 4]) Try.func48 rfl rfl rfl rfl Ty.mixed (by kernel_rfl) ?_
  simp (disch := omega) only [go_sem, seval]
  refine AWP.keep [7, 5, 4, 3] ?_
  simp (disch := omega) only [go_sem, seval]
  refine awp_rangeFuncL rfl (fun li hli => ?_)
  simp (disch := omega) only [go_sem, seval]
  obtain ⟨K, hK⟩ : ∃ K : AV → Bool → AObj → AH, K = fun s b lo => h ++ [.row [.func fn fs cs] 57, .row [s] 25, .row [.bool b] 4, lo] := ⟨_, rfl⟩
  have Klen : ∀ s b lo, (K s b lo).length = h.length + 4 := by subst hK; simp
  have Kf : ∀ s b lo j, (K s b lo ++ j)[h.length]? = some (.row [.func fn fs cs] 57) := by subst hK; simp
  have Ks : ∀ s b lo j, (K s b lo ++ j)[h.length + 1]? = some (.row [s] 25) := by subst hK; simp
  have Kb : ∀ s b lo j, (K s b lo ++ j)[h.length + 2]? = some (.row [.bool b] 4) := by subst hK; simp
  have Kl : ∀ s b lo j, (K s b lo ++ j)[h.length + 3]? = some lo := by subst hK; simp
  have Ss : ∀ s b lo j s', (K s b lo ++ j).set (h.length + 1) (.row [s'] 25) = K s' b lo ++ j := by subst hK; simp
  have Sb : ∀ s b lo j b', (K s b lo ++ j).set (h.length + 2) (.row [.bool b'] 4) = K s b' lo ++ j := by subst hK; simp
  have Sl : ∀ s b lo j lo', (K s b lo ++ j).set (h.length + 3) lo' = K s b lo' ++ j := by subst hK; simp
  have LK1 : ∀ s : List Int, LoopKept (h ++ [.row [.func fn fs cs] 57, .row [.sl [] .full] 25, .row [.bool false] 4]) (h ++ [.row [.func fn fs cs] 57, .row [.sl (encI s) .free] 25, .row [.bool true] 4]) := fun s => by
    have q1 := LoopKept.set (h := h ++ [.row [.func fn fs cs] 57, .row [.sl [] .full] 25, .row [.bool false] 4]) (i := h.length + 1) (ob := .row [.sl (encI s) .free] 25) (RBs.cons (of_eq_true (rb_I _ s)) (RBs.nil _)) (by simp)
    have q2 := LoopKept.set (h := h ++ [.row [.func fn fs cs] 57, .row [.sl (encI s) .free] 25, .row [.bool false] 4]) (i := h.length + 2) (ob := .row [.bool true] 4) (RBs.cons (.bool _) (RBs.nil _)) (by simp)
    simp only [hset_add, List.set_cons_succ, List.set_cons_zero] at q1 q2
    exact q1.trans q2
  have HK : ∀ v b lo j (s : List Int), s.length ≤ 12 → ACalls Try.prog Γ fn (fs ++ .sl (encI s) .free :: cs) (K v b lo ++ j) fun v' h' => h' = K v b lo ++ j ∧ v' = .bool (p s) := fun v b lo j s hs => by
    subst hK
    have := H ([.row [.func fn fs cs] 57, .row [v] 25, .row [.bool b] 4, lo] ++ j) s hs
    rwa [← List.append_assoc] at this
  refine ACalls.heap (h1 := K (.sl [] .full) false (.loop .ready none li) ++ []) ?_ (by subst hK; simp)
  refine acalls_code (rs := []) Try.func80 rfl rfl rfl rfl Ty.mixed (by kernel_rfl) ?_
  simp (disch := omega) only [go_sem, seval, encI_len]
  refine awp_scope ?_
  refine AWP.keep [0, 1] (aCode_ok Ty.mixed _ _ _ _ (by kernel_rfl) ?_)
  simp (disch := omega) only [go_sem, seval, encI_len]
  have LK0 : LoopKept (h ++ [.row [.func fn fs cs] 57, .row [.sl [] .full] 25, .row [.bool false] 4]) (h ++ [.row [.func fn fs cs] 57, .row [.sl [] .full] 25, .row [.bool false] 4]) := LoopKept.refl _
  refine awp_loopS (α := SbS) [0, 1, 3, 12, 13] (fun s => [(0, .yield (h.length + 3)), (1, .eptr [.sl (encI l) .free]), (3, .int .i64 l.length), (12, .int .i64 (l.length + 1)), (13, .int .i64 s.m)])
    (fun s => K (.sl [] .full) false (.loop .ready none li) ++ s.j) (fun s => s.m ≤ l.length + 1 ∧ (allF l).find? p = (fromF l s.m (l.length + 1 - s.m)).find? p) (fun s => l.length + 1 - s.m) ⟨0, []⟩ ?_ (by simp) ⟨by simp, by rw [all_from]; rfl⟩ Ty.mixed (by kernel_rfl) ?_
  · simp (disch := omega) only [go_sem, seval]
  rintro ⟨i, j⟩ ⟨hi, ht⟩
  simp only at hi ht ⊢
  simp (disch := omega) only [go_sem, seval]
  refine aIf.intro (fun hi2 => ?_) (fun hi2 => ?_) <;> simp (disch := omega) only [go_sem, seval]
  rotate_left
  · have e1 : l.length + 1 - i = 0 := by omega
    rw [e1] at ht
    refine ⟨_, .ready, none, j, by subst hK; simp only [List.append_assoc, List.cons_append, List.nil_append], LK0, by simp, ?_⟩
    simp (disch := omega) only [go_sem, seval]
    refine AWP.keep [5, 4] (aCode_ok Ty.mixed _ _ _ _ (by kernel_rfl) ?_)
    simp (disch := omega) only [go_sem, seval]
    rw [ht]; rfl
  have e1 : l.length + 1 - i = (l.length - i) + 1 := by omega
  rw [e1, fromF, ← masks_all] at ht
  have hpw : 2 ^ l.length ≤ 2 ^ 12 := Nat.pow_le_pow_right (by decide) hl
  have hmask : IntKind.i64.wrap (IntKind.i64.wrap (1 * 2 ^ min l.length 64) - 1) = ((2 ^ l.length : Nat) : Int) - 1 := by
    have e : (1 * 2 ^ min l.length 64 : Int) = ((2 ^ l.length : Nat) : Int) := by rw [Nat.min_eq_left (by omega), Int.one_mul]; simp
    have : (2 ^ l.length : Nat) ≤ 4096 := hpw
    rw [e]
    have h1 : 1 ≤ 2 ^ l.length := Nat.one_le_two_pow
    generalize 2 ^ l.length = N at this h1
    rw [show IntKind.i64.wrap (N : Int) = N from IntWalk.i64_in _ ⟨by omega, by omega⟩, IntWalk.i64_in _ ⟨by omega, by omega⟩]
  rw [hmask]
  refine awp_loopS (α := SbS) [0, 1, 3, 4, 5, 12, 13] (fun s => [(0, .yield (h.length + 3)), (1, .eptr [.sl (encI l) .free]), (3, .int .i64 l.length), (4, .int .i64 i), (5, .int .i64 (s.m - 1)), (12, .int .i64 (l.length + 1)), (13, .int .i64 i)])
    (fun s => K (.sl [] .full) false (.loop .ready none li) ++ s.j) (fun s => s.m ≤ 2 ^ l.length ∧ (allF l).find? p = (masksF l i s.m ++ fromF l (i + 1) (l.length - i)).find? p) (fun s => s.m) ⟨2 ^ l.length, j⟩ ?_ (by simp) ⟨Nat.le_refl _, ht⟩ Ty.mixed (by kernel_rfl) ?_
  · simp (disch := omega) only [go_sem, seval]
  clear ht
  rintro ⟨m, j⟩ ⟨hm, ht⟩
  simp only at hm ht ⊢
  simp (disch := omega) only [go_sem, seval]
  cases m with
  | zero =>
    refine aIf.neg (by omega) ?_
    simp (disch := omega) only [go_sem, seval]
    refine AWP.keep [0, 1, 3, 12, 13] (aCode_ok Ty.mixed _ _ _ _ (by kernel_rfl) ?_)
    simp (disch := omega) only [go_sem, seval]
    refine roundS_next ⟨i + 1, j⟩ (by simp only; omega) ⟨by simp only; omega, ?_⟩ ?_ rfl
    · rw [ht]
      have : l.length + 1 - (i + 1) = l.length - i := by omega
      simp only [this]
      rfl
    · simp (disch := omega) only [go_sem, seval]
  | succ m =>
    rw [masks_succ] at ht
    have hm4 : m < 4096 := Nat.lt_of_lt_of_le hm hpw
    have em : ((m + 1 : Nat) : Int) - 1 = (m : Int) := by omega
    rw [em]
    refine aIf.pos (by omega) ?_
    simp (disch := omega) only [go_sem, seval]
    rw [IntWalk.u64_in _ ⟨by omega, by omega⟩]
    refine ACalls.det (ones_calls Γ m _ hm4) ?_
    have epop : popF m 12 = (pickF l m).length := by
      rw [pick_len, show 12 = l.length + (12 - l.length) from by omega, pop_more _ _ _ hm]
    rw [epop]
    simp (disch := omega) only [go_sem, seval]
    refine aIf.intro (fun hsz => ?_) (fun hsz => ?_) <;> simp (disch := omega) only [go_sem, seval]
    rotate_left
    · rw [if_neg (by omega), List.nil_append] at ht
      refine AWP.keep [0, 1, 3, 4, 5, 12, 13] (aCode_ok Ty.mixed _ _ _ _ (by kernel_rfl) ?_)
      simp (disch := omega) only [go_sem, seval]
      refine roundS_next ⟨m, j⟩ (by simp) ⟨by simp only; omega, ht⟩ ?_ rfl
      simp (disch := omega) only [go_sem, seval]
    rw [if_pos (by omega), List.append_assoc, List.cons_append, List.nil_append, List.find?_cons] at ht
    simp (disch := omega) only [go_sem, seval, encI_len]
    refine awp_loopL (β := FlS) l [0, 1, 3, 4, 5, 6, 12, 13, 28, 29, 30] (fun don s => [(0, .yield (h.length + 3)), (1, .eptr [.sl (encI l) .free]), (3, .int .i64 l.length), (4, .int .i64 i), (5, .int .i64 m), (6, .sl (encI s.l) s.own), (12, .int .i64 (l.length + 1)), (13, .int .i64 i), (28, .sl (encI l) .free), (29, .int .i64 l.length), (30, .int .i64 don.length)])
      (fun s => K (.sl [] .full) false (.loop .ready none li) ++ s.j) (fun don rest s => OwnAt (K (.sl [] .full) false (.loop .ready none li)) s.j s.l.length s.own ∧ s.l.length ≤ don.length ∧ pickF l m = s.l ++ pickF rest m) ⟨[], .full, j⟩ ?_ (by simp) ⟨trivial, by simp, rfl⟩ Ty.mixed (by kernel_rfl) ?_ ?_
    · simp (disch := omega) only [go_sem, seval, encI, List.map_nil]
    · rintro don x r ⟨s, own, j⟩ hlx ⟨ho, hsl, hpk⟩
      simp only at ho hsl hpk ⊢
      have hlen : l.length = don.length + 1 + r.length := by rw [hlx]; simp; omega
      have e1 : (encI l)[don.length]? = some (.int .i64 x) := by rw [hlx]; simp [encI]
      simp (disch := omega) only [go_sem, seval, encI_len]
      refine aIf.pos (by omega) ?_
      simp (disch := omega) only [go_sem, seval, encI_len, e1]
      refine ⟨by omega, ?_⟩
      have er : (((l.length : Int) - 1 - don.length).toNat) = r.length := by omega
      have hmr : m / 2 ^ r.length ≤ m := Nat.div_le_self _ _
      rw [er, Nat.min_eq_left (by omega), fdiv_pow, and_one _ (by omega)]
      rw [pickF] at hpk
      refine aIf.intro (fun hbit => ?_) (fun hbit => ?_) <;> simp (disch := omega) only [go_sem, seval]
      · rw [if_pos (by omega)] at hpk
        refine aAp_sl (by rw [encI_len]; exact ho) (rowsOK_I _) (rowsOK_I [x]) (by simp [encI_len]; omega) (by simp [encI_len]; omega) fun j' own' ho2 hg => ?_
        rw [encI_snoc]
        simp (disch := omega) only [go_sem, seval]
        refine roundL_next ⟨s ++ [x], own', j'⟩ ⟨?_, ?_, ?_⟩ ?_ rfl
        · simpa [encI_len] using ho2
        · simp; omega
        · rw [hpk]; simp
        · simp (disch := omega) only [go_sem, seval, List.length_append]
      · rw [if_neg (by omega)] at hpk
        refine roundL_next ⟨s, own, j⟩ ⟨ho, by simp; omega, hpk⟩ ?_ rfl
        simp (disch := omega) only [go_sem, seval, List.length_append]
    · rintro ⟨s, own, j⟩ ⟨ho, hsl, hpk⟩
      simp only at ho hsl hpk ⊢
      simp (disch := omega) only [go_sem, seval, encI_len]
      rw [pickF, List.append_nil] at hpk
      rw [← hpk] at *
      refine AWP.keep [0, 1, 3, 4, 5, 6, 12, 13] (AWP.lzs (aCode_ok Ty.mixed _ _ _ _ (by kernel_rfl) ?_))
      simp (disch := omega) only [go_sem, seval]
      refine ayield_L hli (Kl _ _ _ _) rfl rfl Ty.mixed (by kernel_rfl) rfl ?_
      simp (disch := omega) only [go_sem, seval, Kl, Kf, Sl]
      refine ACalls.det ((HK _ _ _ _ (pickF l m) (by omega)).args (by simp)) ?_
      simp (disch := omega) only [go_sem, seval]
      cases hp : p (pickF l m) with
      | true =>
        rw [hp] at ht
        simp (disch := omega) only [go_sem, seval, Kl, Sl, Ks, Ss, Kb, Sb]
        refine ⟨_, .done, some .ret, j, by subst hK; simp only [List.append_assoc, List.cons_append, List.nil_append], LK1 (pickF l m), by simp, ?_⟩
        refine afterLoop_some Ty.mixed (by kernel_rfl) ?_
        simp (disch := omega) only [go_sem, seval]
        rw [ht]; rfl
      | false =>
        rw [hp] at ht
        simp (disch := omega) only [go_sem, seval, Kl, Sl]
        refine AWP.keep [0, 1, 3, 4, 5, 12, 13] (aCode_ok Ty.mixed _ _ _ _ (by kernel_rfl) ?_)
        simp (disch := omega) only [go_sem, seval]
        refine roundS_next ⟨m, j⟩ (by simp) ⟨by simp only; omega, ht⟩ ?_ rfl
        simp (disch := omega) only [go_sem, seval]
end Go.Proofs.Ytnioapinljedmaa

/- The program's Living, Margin, Dead. No conditions. -/
set_option linter.unusedSimpArgs false
set_option linter.unusedVariables false
namespace Go.Proofs.Ytnioapinljedmaa
open Go Go.Proofs Go.Abs

theorem holdsR_err (g : Gt) (who : List Int) (h : (holdsR g who).2 ≠ 0) : (holdsR g who).1 = false := by
  unfold holdsR at h ⊢
  split
  · rename_i h1
    rw [if_pos h1] at h
    split
    · rename_i h2; rw [if_pos h2] at h; exact absurd rfl h
    · rfl
  · rfl
set_option maxRecDepth 100000 in
theorem sholds_calls (Γ : Nat → Option (List AV)) (p n : Int) (l : List Gt) (ppl who : List Int) (h : AH) (hs : Sh (.mk p n l)) (hw : who.length ≤ 1000000) :
    ACalls Try.prog Γ 50 [strA p n l ppl, .sl (encI who) .free] h fun v h' => h' = h ∧ v = .bool (permF (.mk p n l) who) := by
  refine ACalls.drop ?_
  refine acalls_code (rs := [.tmp 4]) Try.func50 rfl rfl rfl rfl Ty.mixed (by kernel_rfl) ?_
  simp (disch := omega) only [go_sem, seval, strA]
  have hck := fun h => Holds_calls Γ (.mk p n l) who h hs (by omega)
  simp only [encG_mk] at hck
  refine ACalls.det (hck _) ?_
  simp (disch := omega) only [go_sem, seval, encR]
  cases hb : (holdsR (.mk p n l) who).1 with
  | false =>
    simp (disch := omega) only [go_sem, seval]
    simp [permF, hb]
  | true =>
    simp (disch := omega) only [go_sem, seval]
    have : (holdsR (.mk p n l) who).2 = 0 := Decidable.byContradiction fun e => by rw [holdsR_err _ _ e] at hb; cases hb
    simp [permF, hb, this]
set_option maxRecDepth 100000 in
theorem subsets_calls (Γ : Nat → Option (List AV)) (l : List Int) (h : AH) :
    ACalls Try.prog Γ 49 [.sl (encI l) .free] h fun v h' => h' = h ∧ v = .func 80 [] [.eptr [.sl (encI l) .free]] := by
  refine ACalls.endM ?_
  refine acalls_code (rs := [.tmp 2]) Try.func49 rfl rfl rfl rfl Ty.mixed (by kernel_rfl) ?_
  simp (disch := omega) only [go_sem, seval]
  refine .inr ⟨0, [.sl (encI l) .free], 25, by simp (disch := omega) only [go_sem, seval], ?_⟩
  have e : fzV (h.length + 0) [.sl (encI l) .free] (.func 80 [] [.ptr (some (h.length, 0))]) = .func 80 [] [.eptr [.sl (encI l) .free]] := by
    simp [fzV, fzL]
  rw [e]
  refine ⟨.func (by simp) fun j c hc => ?_, rfl⟩
  cases j with
  | zero =>
    simp only [List.getElem?_cons_zero, Option.some.injEq] at hc; subst hc
    refine .eptr fun j c hc => ?_
    cases j with
    | zero => simp only [List.getElem?_cons_zero, Option.some.injEq] at hc; subst hc; exact of_eq_true (rb_I _ l)
    | succ j => simp at hc
  | succ j => simp at hc
set_option maxRecDepth 100000 in
theorem mar1_calls (Γ : Nat → Option (List AV)) (p n : Int) (l : List Gt) (ppl lv s : List Int) (i j : Nat) (h : AH) (hs : Sh (.mk p n l)) (hl : lv.length ≤ 1000000) (hw : s.length ≤ 1000000)
    (hi : h[i]? = some (.row [.int .i64 p, .int .i64 n, .sl (l.map encG) .free, .sl (encI ppl) .free] 62)) (hj : h[j]? = some (.row [.sl (encI lv) .free] 25)) :
    ACalls Try.prog Γ 53 [.sl (encI s) .free, .ptr (some (i, 0)), .ptr (some (j, 0))] h fun v h' => h' = h ∧ v = .bool (!permF (.mk p n l) (wtF lv s)) := by
  refine acalls_code (rs := [.tmp 4]) Try.func53 rfl rfl rfl rfl Ty.mixed (by kernel_rfl) ?_
  have hh := fun h => sholds_calls Γ p n l ppl (wtF lv s) h hs (Nat.le_trans (List.length_filter_le _ _) hl)
  simp only [strA] at hh
  simp (disch := omega) only [go_sem, seval, hi, hj]
  refine aCallF.intro (fun _ => without_calls' Γ lv s _ hl hw) ?_
  simp (disch := omega) only [go_sem, seval]
  refine aCallF.intro (fun _ => hh _) ?_
  simp (disch := omega) only [go_sem, seval]
set_option maxRecDepth 100000 in
theorem dea1_calls (Γ : Nat → Option (List AV)) (p n : Int) (l : List Gt) (ppl s : List Int) (i : Nat) (h : AH) (hs : Sh (.mk p n l)) (hl : ppl.length ≤ 1000000) (hw : s.length ≤ 1000000)
    (hi : h[i]? = some (.row [.int .i64 p, .int .i64 n, .sl (l.map encG) .free, .sl (encI ppl) .free] 62)) :
    ACalls Try.prog Γ 54 [.sl (encI s) .free, .ptr (some (i, 0))] h fun v h' => h' = h ∧ v = .bool (!permF (.mk p n l) (wtF ppl s)) := by
  refine acalls_code (rs := [.tmp 3]) Try.func54 rfl rfl rfl rfl Ty.mixed (by kernel_rfl) ?_
  have hh := fun h => sholds_calls Γ p n l ppl (wtF ppl s) h hs (Nat.le_trans (List.length_filter_le _ _) hl)
  simp only [strA] at hh
  simp (disch := omega) only [go_sem, seval, hi]
  refine aCallF.intro (fun _ => without_calls' Γ ppl s _ hl hw) ?_
  simp (disch := omega) only [go_sem, seval]
  refine aCallF.intro (fun _ => hh _) ?_
  simp (disch := omega) only [go_sem, seval]

/-! ### Living, Margin, Dead -/
def peoF (g : Gt) : List Int := sortI (keysF [] g)
theorem lerr_len {g : Gt} {al : List Int} (h : lerrF g al = 0) : checkF g = 0 ∧ (peoF g).length ≤ 12 := by
  unfold lerrF at h
  split at h
  · rename_i h1
    split at h
    · omega
    · exact ⟨h1, by unfold peoF; rw [(sortI_perm _).length_eq]; omega⟩
  · rename_i h1; exact absurd h h1
theorem wt_wt (l al : List Int) : wtF l (wtF l al) = bothF l al := by
  unfold wtF bothF
  apply List.filter_congr
  intro x hx
  by_cases h : x ∈ al <;> simp [h, hx]
def livP (g : Gt) (al : List Int) : List Int × Bool × Int :=
  if lerrF g al = 0 then firstF (allF (bothF (peoF g) al)) (permF g) else ([], false, lerrF g al)
def marP (g : Gt) (al : List Int) : List Int × Bool × Int :=
  if lerrF g al = 0 then (if permF g al then firstF (allF (bothF (peoF g) al)) (fun s => !permF g (wtF (bothF (peoF g) al) s)) else ([], false, 0)) else ([], false, lerrF g al)
def deaP (g : Gt) (al : List Int) : List Int × Bool × Int :=
  if lerrF g al = 0 then (if permF g al then ([], false, 0) else firstF (allF (wtF (peoF g) al)) (fun s => !permF g (wtF (peoF g) s))) else ([], false, lerrF g al)
set_option maxRecDepth 100000 in
theorem living_calls (Γ : Nat → Option (List AV)) (g : Gt) (al : List Int) (h : AH) (hs : Sh g) (hal : al.length ≤ 1000000) :
    ACalls Try.prog Γ 16 [encG g, .sl (encI al) .free] h fun v h' => h' = h ∧ v = encW (livP g al) := by
  cases g with | mk p n l =>
  refine ACalls.dropL ?_
  refine acalls_code (rs := [.tmp 4, .tmp 5, .tmp 6]) Try.func16 rfl rfl rfl rfl Ty.mixed (by kernel_rfl) ?_
  have hck := fun h => lcheck_calls Γ (.mk p n l) al h hs (by omega)
  simp only [encG_mk, lstrF, strA] at hck
  simp only [encG_mk]
  simp (disch := omega) only [go_sem, seval]
  refine ACalls.det (hck _) ?_
  by_cases he : lerrF (.mk p n l) al = 0
  · obtain ⟨_, hpl⟩ := lerr_len he
    rw [if_pos he, he]
    simp (disch := omega) only [go_sem, seval]
    refine aCallF.intro (fun _ => without_calls' Γ (peoF (.mk p n l)) al _ (by omega) hal) ?_
    simp (disch := omega) only [go_sem, seval]
    refine aCallF.intro (fun _ => without_calls' Γ (peoF (.mk p n l)) (wtF (peoF (.mk p n l)) al) _ (by omega) (by have := List.length_filter_le (fun x => !decide (x ∈ al)) (peoF (.mk p n l)); unfold wtF; omega)) ?_
    simp (disch := omega) only [go_sem, seval]
    rw [wt_wt]
    have hbl : (bothF (peoF (.mk p n l)) al).length ≤ 12 := Nat.le_trans (List.length_filter_le _ _) hpl
    refine aCallF.intro (fun _ => subsets_calls Γ (bothF (peoF (.mk p n l)) al) _) ?_
    simp (disch := omega) only [go_sem, seval]
    have hh := fun (s : List Int) (h : AH) (hl : s.length ≤ 12) => sholds_calls Γ p n l (peoF (.mk p n l)) s h hs (by omega)
    simp only [strA] at hh
    have hfi := fun h => first_calls Γ (bothF (peoF (.mk p n l)) al) (permF (.mk p n l)) 50 [.agg [.int .i64 p, .int .i64 n, .sl (l.map encG) .free, .sl (encI (peoF (.mk p n l))) .free]] [] h hbl (fun j s hl => hh s _ hl)
    have hr : livP (.mk p n l) al = firstF (allF (bothF (peoF (.mk p n l)) al)) (permF (.mk p n l)) := by rw [livP, if_pos he]
    rw [hr, firstF]
    cases hf : (allF (bothF (peoF (.mk p n l)) al)).find? (permF (.mk p n l)) with
    | none =>
      rw [hf] at hfi
      simp only [firstB] at hfi
      refine aCallF.intro (fun _ => hfi _) ?_
      simp (disch := omega) only [go_sem, seval]
      simp [encW, encI]
    | some s =>
      rw [hf] at hfi
      simp only [firstB] at hfi
      refine aCallF.intro (fun _ => hfi _) ?_
      simp (disch := omega) only [go_sem, seval]
      simp [encW, encI]
  · rw [if_neg he]
    simp (disch := omega) only [go_sem, seval]
    refine aIf.neg he ?_
    simp (disch := omega) only [go_sem, seval]
    simp [livP, he, encW, encI]
set_option maxRecDepth 100000 in
theorem dead_calls (Γ : Nat → Option (List AV)) (g : Gt) (al : List Int) (h : AH) (hs : Sh g) (hal : al.length ≤ 1000000) :
    ACalls Try.prog Γ 21 [encG g, .sl (encI al) .free] h fun v h' => h' = h ∧ v = encW (deaP g al) := by
  cases g with | mk p n l =>
  refine ACalls.dropL ?_
  refine acalls_code (rs := [.tmp 4, .tmp 5, .tmp 6]) Try.func21 rfl rfl rfl rfl Ty.mixed (by kernel_rfl) ?_
  have hck := fun h => lcheck_calls Γ (.mk p n l) al h hs (by omega)
  simp only [encG_mk, lstrF, strA] at hck
  simp only [encG_mk]
  simp (disch := omega) only [go_sem, seval]
  refine ACalls.det (hck _) ?_
  by_cases he : lerrF (.mk p n l) al = 0
  · obtain ⟨_, hpl⟩ := lerr_len he
    rw [if_pos he, he]
    simp (disch := omega) only [go_sem, seval]
    have hh := fun (s : List Int) (h : AH) (hl : s.length ≤ 1000000) => sholds_calls Γ p n l (peoF (.mk p n l)) s h hs hl
    simp only [strA] at hh
    refine ACalls.det (hh al _ hal) ?_
    cases hpe : permF (.mk p n l) al with
    | true =>
      simp (disch := omega) only [go_sem, seval]
      simp [deaP, he, hpe, encW, encI]
    | false =>
      simp (disch := omega) only [go_sem, seval]
      refine ACalls.det (without_calls' Γ (peoF (.mk p n l)) al _ (by omega) hal) ?_
      simp (disch := omega) only [go_sem, seval]
      have hbl : (wtF (peoF (.mk p n l)) al).length ≤ 12 := Nat.le_trans (List.length_filter_le _ _) hpl
      refine ACalls.det (subsets_calls Γ (wtF (peoF (.mk p n l)) al) _) ?_
      simp (disch := omega) only [go_sem, seval]
      have hfi := first_calls Γ (wtF (peoF (.mk p n l)) al) (fun s => !permF (.mk p n l) (wtF (peoF (.mk p n l)) s)) 54 [] [.ptr (some (h.length + 1, 0))]
        (h ++ [.row [.int .i64 p, .int .i64 n, .sl (l.map encG) .free] 24, .row [.int .i64 p, .int .i64 n, .sl (l.map encG) .free, .sl (encI (peoF (.mk p n l))) .free] 62]) hbl
        (fun j s hl => dea1_calls Γ p n l (peoF (.mk p n l)) s _ _ hs (by omega) (by omega) (by simp))
      have hr : deaP (.mk p n l) al = firstF (allF (wtF (peoF (.mk p n l)) al)) (fun s => !permF (.mk p n l) (wtF (peoF (.mk p n l)) s)) := by rw [deaP, if_pos he, if_neg (by simp [hpe])]
      rw [hr, firstF]
      cases hf : (allF (wtF (peoF (.mk p n l)) al)).find? (fun s => !permF (.mk p n l) (wtF (peoF (.mk p n l)) s)) with
      | none =>
        rw [hf] at hfi
        simp only [firstB] at hfi
        refine ACalls.det hfi ?_
        simp (disch := omega) only [go_sem, seval]
        simp [encW, encI]
      | some s =>
        rw [hf] at hfi
        simp only [firstB] at hfi
        refine ACalls.det hfi ?_
        simp (disch := omega) only [go_sem, seval]
        simp [encW, encI]
  · rw [if_neg he]
    simp (disch := omega) only [go_sem, seval]
    refine aIf.neg he ?_
    simp (disch := omega) only [go_sem, seval]
    simp [deaP, he, encW, encI]
set_option maxRecDepth 100000 in
theorem margin_calls (Γ : Nat → Option (List AV)) (g : Gt) (al : List Int) (h : AH) (hs : Sh g) (hal : al.length ≤ 1000000) :
    ACalls Try.prog Γ 19 [encG g, .sl (encI al) .free] h fun v h' => h' = h ∧ v = encW (marP g al) := by
  cases g with | mk p n l =>
  refine ACalls.dropL ?_
  refine acalls_code (rs := [.tmp 4, .tmp 5, .tmp 6]) Try.func19 rfl rfl rfl rfl Ty.mixed (by kernel_rfl) ?_
  have hck := fun h => lcheck_calls Γ (.mk p n l) al h hs (by omega)
  simp only [encG_mk, lstrF, strA] at hck
  simp only [encG_mk]
  simp (disch := omega) only [go_sem, seval]
  refine ACalls.det (hck _) ?_
  by_cases he : lerrF (.mk p n l) al = 0
  · obtain ⟨_, hpl⟩ := lerr_len he
    rw [if_pos he, he]
    simp (disch := omega) only [go_sem, seval]
    have hh := fun (s : List Int) (h : AH) (hl : s.length ≤ 1000000) => sholds_calls Γ p n l (peoF (.mk p n l)) s h hs hl
    simp only [strA] at hh
    refine ACalls.det (hh al _ hal) ?_
    cases hpe : permF (.mk p n l) al with
    | false =>
      simp (disch := omega) only [go_sem, seval]
      simp [marP, he, hpe, encW, encI]
    | true =>
      simp (disch := omega) only [go_sem, seval]
      refine aCallF.intro (fun _ => without_calls' Γ (peoF (.mk p n l)) al _ (by omega) hal) ?_
      simp (disch := omega) only [go_sem, seval]
      refine aCallF.intro (fun _ => without_calls' Γ (peoF (.mk p n l)) (wtF (peoF (.mk p n l)) al) _ (by omega) (by have := List.length_filter_le (fun x => !decide (x ∈ al)) (peoF (.mk p n l)); unfold wtF; omega)) ?_
      simp (disch := omega) only [go_sem, seval]
      rw [wt_wt]
      have hbl : (bothF (peoF (.mk p n l)) al).length ≤ 12 := Nat.le_trans (List.length_filter_le _ _) hpl
      refine ACalls.det (subsets_calls Γ (bothF (peoF (.mk p n l)) al) _) ?_
      simp (disch := omega) only [go_sem, seval]
      have hfi := first_calls Γ (bothF (peoF (.mk p n l)) al) (fun s => !permF (.mk p n l) (wtF (bothF (peoF (.mk p n l)) al) s)) 53 [] [.ptr (some (h.length + 1, 0)), .ptr (some (h.length + 2, 0))]
        (h ++ [.row [.int .i64 p, .int .i64 n, .sl (l.map encG) .free] 24, .row [.int .i64 p, .int .i64 n, .sl (l.map encG) .free, .sl (encI (peoF (.mk p n l))) .free] 62, .row [.sl (encI (bothF (peoF (.mk p n l)) al)) .free] 25]) hbl
        (fun j s hl => mar1_calls Γ p n l (peoF (.mk p n l)) (bothF (peoF (.mk p n l)) al) s _ _ _ hs (by omega) (by omega) (by simp) (by simp))
      have hr : marP (.mk p n l) al = firstF (allF (bothF (peoF (.mk p n l)) al)) (fun s => !permF (.mk p n l) (wtF (bothF (peoF (.mk p n l)) al) s)) := by rw [marP, if_pos he, if_pos hpe]
      rw [hr, firstF]
      cases hf : (allF (bothF (peoF (.mk p n l)) al)).find? (fun s => !permF (.mk p n l) (wtF (bothF (peoF (.mk p n l)) al) s)) with
      | none =>
        rw [hf] at hfi
        simp only [firstB] at hfi
        refine ACalls.det hfi ?_
        simp (disch := omega) only [go_sem, seval]
        simp [encW, encI]
      | some s =>
        rw [hf] at hfi
        simp only [firstB] at hfi
        refine ACalls.det hfi ?_
        simp (disch := omega) only [go_sem, seval]
        simp [encW, encI]
  · rw [if_neg he]
    simp (disch := omega) only [go_sem, seval]
    refine aIf.neg he ?_
    simp (disch := omega) only [go_sem, seval]
    simp [marP, he, encW, encI]
end Go.Proofs.Ytnioapinljedmaa

/- The program's answers are the reference's. Plain. -/
set_option linter.unusedSimpArgs false
set_option linter.unusedVariables false
namespace Go.Proofs.Ytnioapinljedmaa
open Go Go.Proofs Go.Abs

theorem putF_mem (p : Int) : ∀ l : List Int, l.Pairwise (· ≤ ·) → p ∈ l → putF p l = l
  | [], _, h => by simp at h
  | y :: r, hs, h => by
    rw [List.pairwise_cons] at hs
    rw [putF]
    split
    · rename_i h1
      have : p ∈ r := by rcases List.mem_cons.1 h with h | h; · omega
                         · exact h
      rw [putF_mem p r hs.2 this]
    · rename_i h1
      split
      · rfl
      · rename_i h2
        rcases List.mem_cons.1 h with h | h
        · omega
        · have := hs.1 p h; omega
theorem putF_perm (p : Int) : ∀ l : List Int, p ∉ l → (putF p l).Perm (p :: l)
  | [], _ => .refl _
  | y :: r, h => by
    rw [putF]
    split
    · exact ((putF_perm p r (fun e => h (List.mem_cons_of_mem _ e))).cons y).trans (.swap p y r)
    · split
      · rename_i h2; subst h2; exact absurd (List.mem_cons_self ..) h
      · exact .refl _
theorem putF_bd (p b : Int) (hb : b ≤ p) : ∀ l : List Int, (∀ x ∈ l, b ≤ x) → ∀ x ∈ putF p l, b ≤ x
  | [], _, x, hx => by simp [putF] at hx; omega
  | y :: r, h, x, hx => by
    rw [putF] at hx
    split at hx
    · rcases List.mem_cons.1 hx with rfl | hx
      · exact h _ (by simp)
      · exact putF_bd p b hb r (fun z hz => h z (by simp [hz])) x hx
    · split at hx
      · exact h x hx
      · rcases List.mem_cons.1 hx with rfl | hx
        · exact hb
        · exact h x hx
theorem putF_le (p : Int) : ∀ l : List Int, l.Pairwise (· ≤ ·) → (putF p l).Pairwise (· ≤ ·)
  | [], _ => by simp [putF]
  | y :: r, hs => by
    have hs0 := hs
    rw [List.pairwise_cons] at hs
    rw [putF]
    split
    · rename_i h1
      rw [List.pairwise_cons]
      exact ⟨putF_bd p y (by omega) r hs.1, putF_le p r hs.2⟩
    · split
      · exact hs0
      · rw [List.pairwise_cons]
        refine ⟨fun z hz => ?_, hs0⟩
        rcases List.mem_cons.1 hz with rfl | hz
        · omega
        · have := hs.1 z hz; omega
theorem put_sort (p : Int) (ks : List Int) : putF p (sortI ks) = sortI (addK p ks) := by
  unfold addK
  split
  · rename_i h
    exact putF_mem p _ (sortI_le ks) ((sortI_perm ks).mem_iff.2 h)
  · rename_i h
    refine sortI_of (putF_le p _ (sortI_le ks)) ?_
    refine (putF_perm p _ (fun e => h ((sortI_perm ks).mem_iff.1 e))).trans ?_
    refine ((sortI_perm ks).cons p).trans ?_
    exact (List.perm_append_comm (l₁ := ks) (l₂ := [p])).symm
mutual
theorem gath_keys : ∀ (g : Gt) (ks : List Int), rightF g = true → gathF (sortI ks) g = sortI (keysF ks g)
  | .mk p n l, ks, h => by
    rw [gathF, keysF]
    split
    · rename_i hp
      simp only [rightF, if_pos hp, Bool.and_eq_true, List.isEmpty_iff] at h
      rw [h.2, keysL, put_sort]
    · rename_i hp
      simp only [rightF, if_neg hp, Bool.and_eq_true] at h
      exact gath_keysL l ks h.2
theorem gath_keysL : ∀ (l : List Gt) (ks : List Int), rightL l = true → gathL (sortI ks) l = sortI (keysL ks l)
  | [], _, _ => rfl
  | x :: r, ks, h => by
    simp only [rightL, Bool.and_eq_true] at h
    rw [gathL, keysL, gath_keys x ks h.1, gath_keysL r _ h.2]
end
theorem peo_ppl {g : Gt} (h : rightF g = true) : peoF g = pplF g := (gath_keys g [] h).symm
theorem lerr_eq (g : Gt) (al : List Int) : lerrF g al = err51F g al := by
  unfold lerrF err51F errF
  by_cases h : checkF g = 0
  · have hl : (pplF g).length = (keysF [] g).length := by rw [← peo_ppl (checkF_right h)]; exact (sortI_perm _).length_eq
    rw [if_pos h, if_pos h, hl]
    by_cases h2 : 12 < (keysF [] g).length
    · have h3 : (12 : Int) < ((keysF [] g).length : Int) := by omega
      simp [h2, h3]
    · have h3 : ¬ (12 : Int) < ((keysF [] g).length : Int) := by omega
      simp [h2, h3]
  · rw [if_neg h, if_neg h, if_neg h]
theorem ppl_of_err {g : Gt} {al : List Int} (h : err51F g al = 0) : peoF g = pplF g := by
  rw [← lerr_eq] at h
  exact peo_ppl (checkF_right (lerr_len h).1)
theorem liv_eq (g : Gt) (al : List Int) : livP g al = livR g al := by
  unfold livP livR
  rw [lerr_eq]
  split
  · rename_i h; rw [ppl_of_err h]
  · rfl
theorem mar_eq (g : Gt) (al : List Int) : marP g al = marR g al := by
  unfold marP marR
  rw [lerr_eq]
  split
  · rename_i h; rw [ppl_of_err h]
  · rfl
theorem dea_eq (g : Gt) (al : List Int) : deaP g al = deaR g al := by
  unfold deaP deaR
  rw [lerr_eq]
  split
  · rename_i h; rw [ppl_of_err h]
  · rfl

/-! ### The law's own examples -/
def lf (n : Int) : Gt := .mk n 0 []
def twoG : Gt := .mk (-1) 2 [lf 1, lf 2, lf 3]
theorem ex1 : livP twoG [2, 3] = ([2, 3], true, 0) ∧ marP twoG [2, 3] = ([2], true, 0) ∧ deaP twoG [2, 3] = ([], false, 0) := by decide +kernel
end Go.Proofs.Ytnioapinljedmaa

/- The law's own examples; its words on what it looks at. No conditions. -/
set_option linter.unusedSimpArgs false
set_option linter.unusedVariables false
namespace Go.Proofs.Ytnioapinljedmaa
open Go Go.Proofs Go.Abs

structure Ex where
  g : Gt
  al : List Int
  a : List Int
  l : List Int
  b : List Int
  p : Bool
  q : Bool
  r : Bool
def encE (x : Ex) : AV := .agg ((encG x.g).cells ++ [.sl (encI x.al) .free, .sl (encI x.a) .free, .sl (encI x.l) .free, .sl (encI x.b) .free, .bool x.p, .bool x.q, .bool x.r])
def exL : List Ex := [⟨twoG, [2, 3], [2, 3], [2], [], true, true, false⟩, ⟨twoG, [1, 2, 3], [1, 2], [1, 2], [], true, true, false⟩, ⟨twoG, [3], [], [], [1, 2], false, false, true⟩,
  ⟨lf 5, [5], [5], [5], [], true, true, false⟩, ⟨lf 5, [], [], [], [5], false, false, true⟩, ⟨.mk (-1) 1 [], [5], [], [], [], false, false, true⟩, ⟨.mk (-1) 1 [lf 1, lf 2], [1, 2, 9], [1], [1, 2], [], true, true, false⟩]
theorem ex_facts : ∀ x ∈ exL, livP x.g x.al = (x.a, x.p, 0) ∧ marP x.g x.al = (x.l, x.q, 0) ∧ deaP x.g x.al = (x.b, x.r, 0) ∧ x.al.length ≤ 3 ∧ x.a.length ≤ 3 ∧ x.l.length ≤ 3 ∧ x.b.length ≤ 3 := by
  intro x hx
  have h : (exL.all fun x => decide (livP x.g x.al = (x.a, x.p, 0) ∧ marP x.g x.al = (x.l, x.q, 0) ∧ deaP x.g x.al = (x.b, x.r, 0) ∧ x.al.length ≤ 3 ∧ x.a.length ≤ 3 ∧ x.l.length ≤ 3 ∧ x.b.length ≤ 3)) = true := by decide +kernel
  exact of_decide_eq_true (List.all_eq_true.1 h x hx)
theorem sh_lf (n : Int) (h1 : -9223372036854775808 ≤ n) (h2 : n ≤ 9223372036854775807) : Sh (lf n) := .mk (by simp) (by simp) h1 h2 (by decide) (by decide)
theorem sh_two : Sh twoG := .mk (by simp) (by simp only [List.mem_cons, List.not_mem_nil, or_false]; rintro x (rfl | rfl | rfl) <;> exact sh_lf _ (by decide) (by decide)) (by decide) (by decide) (by decide) (by decide)
theorem ex_sh : ∀ x ∈ exL, Sh x.g := by
  simp only [exL, List.mem_cons, List.not_mem_nil, or_false]
  rintro x (rfl | rfl | rfl | rfl | rfl | rfl | rfl)
  · exact sh_two
  · exact sh_two
  · exact sh_two
  · exact sh_lf _ (by decide) (by decide)
  · exact sh_lf _ (by decide) (by decide)
  · exact .mk (by simp) (by simp) (by decide) (by decide) (by decide) (by decide)
  · exact .mk (by simp) (by simp only [List.mem_cons, List.not_mem_nil, or_false]; rintro x (rfl | rfl) <;> exact sh_lf _ (by decide) (by decide)) (by decide) (by decide) (by decide) (by decide)
set_option maxRecDepth 100000 in
theorem two_calls (Γ : Nat → Option (List AV)) (h : AH) :
    ACalls Try.prog Γ 45 [] h fun v h' => h' = h ∧ v = .agg [.int .i64 (-1), .int .i64 2, .sl ([lf 1, lf 2, lf 3].map encG) .free] := by
  refine ACalls.dropL ?_
  refine acalls_code (rs := [.cell 0 24]) Try.func45 rfl rfl rfl rfl Ty.mixed (by kernel_rfl) ?_
  simp (disch := omega) only [go_sem, seval]
  have e : [AV.agg [.int .i64 1, .int .i64 0, .sl [] .free], .agg [.int .i64 2, .int .i64 0, .sl [] .free], .agg [.int .i64 3, .int .i64 0, .sl [] .free]] = [lf 1, lf 2, lf 3].map encG := by simp [lf, encG_mk]
  rw [e]
  exact ⟨of_eq_true (rb_Gs _ _), rfl⟩
set_option maxRecDepth 100000 in
theorem sane_calls (Γ : Nat → Option (List AV)) (h : AH) :
    ACalls Try.prog Γ 14 [] h fun v h' => h' = h ∧ v = .bool true := by
  refine ACalls.drop ?_
  refine acalls_code (rs := [.tmp 0]) Try.func14 rfl rfl rfl rfl Ty.mixed (by kernel_rfl) ?_
  simp (disch := omega) only [go_sem, seval]
  refine ACalls.det (two_calls Γ _) ?_
  simp (disch := omega) only [go_sem, seval]
  refine ACalls.det (two_calls Γ _) ?_
  simp (disch := omega) only [go_sem, seval]
  refine ACalls.det (two_calls Γ _) ?_
  simp (disch := omega) only [go_sem, seval]
  refine AWP.keep [51, 52, 53] (AWP.lzs ?_)
  simp (disch := omega) only [go_sem, seval]
  obtain ⟨xs, hxs⟩ : ∃ xs, xs = exL := ⟨_, rfl⟩
  have hsh : ∀ x ∈ xs, Sh x.g := by rw [hxs]; exact ex_sh
  have hf := ex_facts
  rw [← hxs] at hf
  refine awp_loopL (β := AH) xs [51, 52, 53] (fun don _ => [(51, .sl (xs.map encE) .free), (52, .int .i64 7), (53, .int .i64 don.length)]) (fun j => h ++ j) (fun _ _ _ => True) [] ?_ (by simp) trivial Ty.mixed (by kernel_rfl) ?_ ?_
  · simp (disch := omega) only [go_sem, seval]
    simp [hxs, exL, encE, encI, encG_mk, lf, twoG, AV.cells]
  · rintro don x r j hx _
    have hxm : x ∈ xs := by rw [hx]; simp
    have hlen : don.length + 1 + r.length = 7 := by
      have : xs.length = 7 := by rw [hxs]; rfl
      rw [hx] at this; simp at this; omega
    obtain ⟨f1, f2, f3, f4, f5, f6, f7⟩ := hf x hxm
    have hs := hsh x hxm
    have e1 : (xs.map encE)[don.length]? = some (encE x) := by rw [hx]; simp
    clear hx hxs hf hsh hxm
    obtain ⟨⟨p, n, l⟩, al, a, b, c, bp, bq, br⟩ := x
    simp only at f1 f2 f3 f4 f5 f6 f7 hs
    have q1 := fun h => living_calls Γ (.mk p n l) al h hs (by omega)
    have q2 := fun h => margin_calls Γ (.mk p n l) al h hs (by omega)
    have q3 := fun h => dead_calls Γ (.mk p n l) al h hs (by omega)
    simp only [encG_mk, f1, f2, f3, encW] at q1 q2 q3
    simp only [encE, encG_mk, AV.cells, List.cons_append, List.nil_append] at e1
    simp (disch := omega) only [go_sem, seval, List.length_map]
    refine aIf.pos (by omega) ?_
    simp (disch := omega) only [go_sem, seval, List.length_map, e1]
    refine ACalls.det (q1 _) ?_
    simp (disch := omega) only [go_sem, seval]
    refine ACalls.det (q2 _) ?_
    simp (disch := omega) only [go_sem, seval]
    refine ACalls.det (q3 _) ?_
    simp (disch := omega) only [go_sem, seval]
    refine ACalls.det (sameI_calls Γ a a _ (by omega)) ?_
    simp (disch := omega) only [go_sem, seval]
    refine ACalls.det (sameI_calls Γ b b _ (by omega)) ?_
    simp (disch := omega) only [go_sem, seval]
    refine ACalls.det (sameI_calls Γ c c _ (by omega)) ?_
    simp (disch := omega) only [go_sem, seval]
    refine roundL_next (j ++ [.row [.int .i64 p, .int .i64 n, .sl (l.map encG) .free, .sl (encI al) .free, .sl (encI a) .free, .sl (encI b) .free, .sl (encI c) .free, .bool bp, .bool bq, .bool br] 59]) trivial ?_ ?_
    · simp (disch := omega) only [go_sem, seval, List.length_append]
    · simp
  · intro j _
    have : xs.length = 7 := by rw [hxs]; rfl
    simp (disch := omega) only [go_sem, seval]
    refine aIf.neg (by omega) ?_
    refine AWP.keep [] (aCode_ok Ty.mixed _ _ _ _ (by kernel_rfl) ?_)
    simp (disch := omega) only [go_sem, seval]
    refine ACalls.det (two_calls Γ _) ?_
    simp (disch := omega) only [go_sem, seval]
    have g1 : livP twoG [3, 3] = ([], false, 1) := by decide +kernel
    have g2 : deaP (lf 64) [] = ([], false, 220) := by decide +kernel
    have q1 := fun h => living_calls Γ twoG [3, 3] h sh_two (by simp)
    have q2 := fun h => dead_calls Γ (lf 64) [] h (sh_lf _ (by decide) (by decide)) (by simp)
    rw [g1] at q1
    rw [g2] at q2
    simp only [twoG, lf, encG_mk, encW] at q1 q2
    refine ACalls.det (ACalls.ofLoose (q1 _) (by simp [looseL, loose, encI, lf, encG_mk])) ?_
    simp (disch := omega) only [go_sem, seval]
    refine ACalls.det (ACalls.ofLoose (q2 _) (by simp [looseL, loose, encI, lf, encG_mk])) ?_
    simp (disch := omega) only [go_sem, seval]
    done
end Go.Proofs.Ytnioapinljedmaa
