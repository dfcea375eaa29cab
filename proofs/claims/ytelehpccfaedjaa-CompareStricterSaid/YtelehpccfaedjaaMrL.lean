/- Texts joined: LivE, LivF, LivG, LivH, LivI. No conditions. -/
import Derived.Test.YtelehpccfaedjaaMrK
/- Subsets by masks: counting bits, the order of masks. No conditions. -/
set_option linter.unusedSimpArgs false
set_option linter.unusedVariables false
namespace Go.Proofs.Ytelehpccfaedjaa
open Go Go.Proofs Go.Abs

/-! ### Masks -/
/-- What a mask picks of a list: its first element is the mask's highest bit. -/
def pickF : List Int → Nat → List Int
  | [], _ => []
  | x :: r, m => if m / 2 ^ r.length % 2 = 1 then x :: pickF r m else pickF r m
def subsF : List Int → List (List Int)
  | [] => [[]]
  | x :: r => (subsF r).map (x :: ·) ++ subsF r
/-- Bits set below n. -/
def popF (m : Nat) : Nat → Nat
  | 0 => 0
  | n + 1 => m / 2 ^ n % 2 + popF m n
theorem pick_len (l : List Int) (m : Nat) : (pickF l m).length = popF m l.length := by
  induction l with
  | nil => rfl
  | cons x r ih =>
    have := Nat.mod_lt (m / 2 ^ r.length) (show 2 > 0 by decide)
    rw [pickF, List.length_cons, popF]
    split
    · rename_i h; rw [List.length_cons, ih, h, Nat.add_comm]
    · rename_i h; rw [ih]; omega
theorem pow_bit (m k n : Nat) (h : k < n) : (2 ^ n + m) / 2 ^ k % 2 = m / 2 ^ k % 2 := by
  obtain ⟨d, rfl⟩ : ∃ d, n = k + (d + 1) := ⟨n - k - 1, by omega⟩
  rw [Nat.pow_add, Nat.mul_comm, Nat.add_comm, Nat.add_mul_div_right _ _ (Nat.pow_pos (by decide)), Nat.pow_succ, Nat.mul_comm, Nat.add_mul_mod_self_left]
theorem pick_add (l : List Int) (m n : Nat) (h : l.length ≤ n) : pickF l (2 ^ n + m) = pickF l m := by
  induction l with
  | nil => rfl
  | cons x r ih =>
    simp only [List.length_cons] at h
    rw [pickF, pickF, pow_bit _ _ _ (by omega), ih (by omega)]
theorem pop_add (m n k : Nat) (h : k ≤ n) : popF (2 ^ n + m) k = popF m k := by
  induction k with
  | zero => rfl
  | succ k ih => rw [popF, popF, pow_bit _ _ _ (by omega), ih (by omega)]
theorem pop_more (m : Nat) : ∀ (k n : Nat), m < 2 ^ n → popF m (n + k) = popF m n
  | 0, n, h => rfl
  | k + 1, n, h => by
    rw [← Nat.add_assoc, popF, pop_more m k n h, Nat.div_eq_of_lt (Nat.lt_of_lt_of_le h (Nat.pow_le_pow_right (by decide) (by omega)))]
    simp
theorem downs (n k : Nat) : (List.range (n + k)).reverse = ((List.range k).reverse.map (n + ·)) ++ (List.range n).reverse := by
  rw [List.range_add, List.reverse_append, List.map_reverse]
theorem subs_masks (l : List Int) : (List.range (2 ^ l.length)).reverse.map (pickF l) = subsF l := by
  induction l with
  | nil => rfl
  | cons x r ih =>
    rw [List.length_cons, Nat.pow_succ, Nat.mul_two, downs, List.map_append, subsF, ← ih, List.map_map, List.map_map]
    congr 1
    · apply List.map_congr_left
      intro m hm
      simp only [List.mem_reverse, List.mem_range] at hm
      simp only [Function.comp, pickF]
      rw [if_pos, pick_add r m _ (Nat.le_refl _)]
      rw [Nat.add_div_left _ (Nat.pow_pos (by decide)), Nat.div_eq_of_lt hm]
    · apply List.map_congr_left
      intro m hm
      simp only [List.mem_reverse, List.mem_range] at hm
      rw [pickF, if_neg]
      rw [Nat.div_eq_of_lt hm]; decide
theorem subs_choose : ∀ (l : List Int) (k : Nat), (subsF l).filter (fun s => decide (s.length = k)) = chooseF l k
  | [], 0 => rfl
  | [], k + 1 => rfl
  | x :: r, 0 => by
    rw [subsF, List.filter_append, subs_choose r 0, List.filter_map]
    rw [show ((fun s : List Int => decide (s.length = 0)) ∘ fun s => x :: s) = fun _ => false from by funext s; simp]
    cases r <;> simp [chooseF]
  | x :: r, k + 1 => by
    rw [subsF, List.filter_append, subs_choose r (k + 1), List.filter_map]
    rw [show ((fun s : List Int => decide (s.length = k + 1)) ∘ fun s => x :: s) = fun s => decide (s.length = k) from by funext s; simp, subs_choose r k, chooseF]
/-- The subsets of one size, by masks from the highest. -/
theorem choose_masks (l : List Int) (k : Nat) : ((List.range (2 ^ l.length)).reverse.map (pickF l)).filter (fun s => decide (s.length = k)) = chooseF l k := by rw [subs_masks, subs_choose]

/-! ### Counting bits -/
def onA (a : Int) : Int := IntKind.u64.wrap (bitsOp .and .u64 (a.fdiv (2 ^ min 1 64)) 6148914691236517205 + bitsOp .and .u64 a 6148914691236517205)
def onB (a : Int) : Int := IntKind.u64.wrap (bitsOp .and .u64 (a.fdiv (2 ^ min 2 64)) 3689348814741910323 + bitsOp .and .u64 a 3689348814741910323)
def onC (a : Int) : Int := bitsOp .and .u64 (IntKind.u64.wrap (a.fdiv (2 ^ min 4 64) + a)) 1085102592571150095
def onD (k : Nat) (a : Int) : Int := IntKind.u64.wrap (a + a.fdiv (2 ^ min k 64))
def onE (a : Int) : Int := bitsOp .and .i64 (IntKind.i64.wrap a) 127
def onesI (a : Int) : Int := onE (onD 32 (onD 16 (onD 8 (onC (onB (onA a))))))
theorem ones_pop2 : ∀ a b : Fin 64, onesI ((64 * a.val + b.val : Nat) : Int) = popF (64 * a.val + b.val) 12 := by decide +kernel
theorem ones_pop (m : Nat) (hm : m < 4096) : onesI (m : Int) = popF m 12 := by
  have := ones_pop2 ⟨m / 64, by omega⟩ ⟨m % 64, by omega⟩
  simp only [Nat.div_add_mod] at this
  exact this
/-! ### Code with a label through which no goto goes -/
section
variable {P : Program} {F : Fence} {n : Nat} {b : Frame} {a : Act} {k : List Item} {cs : List Frame} {w : World}
theorem stepR_scope {c : Code} : step P (lone (b.atR a (.code (.scope c) :: k)) cs w) = .next (lone (b.atR a (.code c :: .inScope c :: k)) cs w) :=
  step_lone_go (by simp [stepG, stepG.exec, Frame.atR])
theorem stepR_inScope {c : Code} : step P (lone (b.atR a (.inScope c :: k)) cs w) = .next (lone (b.atR a k) cs w) :=
  step_lone_go (by simp [stepG, stepG.exec, Frame.atR])
theorem wpIn_scope {c : Code} {Q : Exit → Act → World → Prop} (h : c.wpIn F n P (Exit.noGoto Q) a w) : (Code.scope c).wpIn F n P Q a w := by
  intro b k cs hro hb hr
  have h0 : (lone (b.atR a (.code (.scope c) :: k)) cs w).fenced P F := fenced_calm hb hr rfl
  obtain ⟨e, a₁, w₁, hq, harr⟩ := h b (.inScope c :: k) cs hro hb hr
  cases e with
  | normal => exact ⟨.normal, a₁, w₁, hq, .head h0 stepR_scope (StepsIn.trans harr (.one (fenced_calm hb hr rfl) stepR_inScope))⟩
  | exit id' =>
    have hx : exitTo id' (.inScope c :: k) = exitTo id' k := by simp [exitTo]
    exact ⟨.exit id', a₁, w₁, hq, fun k' hk => .head h0 stepR_scope (harr.1 k' (by rw [hx]; exact hk)),
        fun hr' hk => let ⟨k₁, h1, h2⟩ := harr.2 hr' (by rw [hx]; exact hk); ⟨k₁, h1, .head h0 stepR_scope h2⟩⟩
  | goto l => exact hq.elim
  | ret => exact ⟨_, a₁, w₁, hq, .of_steps (.one h0 stepR_scope) harr⟩
  | panic ch => exact ⟨_, a₁, w₁, hq, .of_steps (.one h0 stepR_scope) harr⟩
  | outgrown => exact ⟨_, a₁, w₁, hq, .of_steps (.one h0 stepR_scope) harr⟩
/-- No goto leaves. -/
def scopeA (Q : Exit → Tm → AH → Prop) : Exit → Tm → AH → Prop
  | .goto _, _, _ => False
  | e, σ, h => Q e σ h
@[go_sem] theorem scopeA_normal (Q : Exit → Tm → AH → Prop) (σ : Tm) (h : AH) : scopeA Q .normal σ h = Q .normal σ h := (rfl)
@[go_sem] theorem scopeA_ret (Q : Exit → Tm → AH → Prop) (σ : Tm) (h : AH) : scopeA Q .ret σ h = Q .ret σ h := (rfl)
@[go_sem] theorem scopeA_exit (Q : Exit → Tm → AH → Prop) (i : Nat) (σ : Tm) (h : AH) : scopeA Q (.exit i) σ h = Q (.exit i) σ h := (rfl)
theorem awp_scope {Γ : Nat → Option (List AV)} {N : Nat} {c : Code} {Q : Exit → Tm → AH → Prop} {σ : Tm} {h : AH} (H : AWP P Γ N c (scopeA Q) σ h) : AWP P Γ N (.scope c) Q σ h := fun r G w a hr hI ht => by
  refine wpIn_scope (wpIn_mono (H r G w a hr hI ht) fun e a' w' hp => ?_)
  cases e with
  | goto l => obtain ⟨G', σ', h', Ds, h1, h2, h3, h4, h5, h6, h7⟩ := hp; exact h7.elim
  | _ => exact hp
end
end Go.Proofs.Ytelehpccfaedjaa

/- The first subset that passes. No conditions. -/
set_option linter.unusedSimpArgs false
set_option linter.unusedVariables false
namespace Go.Proofs.Ytelehpccfaedjaa
open Go Go.Proofs Go.Abs

theorem and_one (q : Nat) (hq : q < 4096) : bitsOp .and .i64 (q : Int) 1 = (q % 2 : Nat) := by
  have h1 : (BitVec.ofInt 64 (q : Int) &&& BitVec.ofInt 64 1).toNat = q % 2 := by
    rw [BitVec.toNat_and, show (BitVec.ofInt 64 1).toNat = 1 from rfl, BitVec.ofInt_natCast, BitVec.toNat_ofNat, Nat.and_one_is_mod]
    omega
  show IntKind.i64.wrap ((BitVec.ofInt 64 (q : Int) &&& BitVec.ofInt 64 1).toNat : Int) = _
  rw [h1, IntWalk.i64_in _ ⟨by omega, by omega⟩]
theorem fdiv_pow (m k : Nat) : ((m : Int).fdiv (2 ^ k)) = ((m / 2 ^ k : Nat) : Int) := by
  rw [Int.fdiv_eq_ediv_of_nonneg _ (Int.le_of_lt (Int.pow_pos (by decide)))]
  simp
def fromF (l : List Int) : Nat → Nat → List (List Int)
  | _, 0 => []
  | i, c + 1 => chooseF l i ++ fromF l (i + 1) c
theorem from_all (l : List Int) : ∀ (c i : Nat), (List.range' i c).flatMap (chooseF l) = fromF l i c
  | 0, i => rfl
  | c + 1, i => by rw [List.range'_succ, List.flatMap_cons, from_all l c (i + 1), fromF]
theorem all_from (l : List Int) : allF l = fromF l 0 (l.length + 1) := by rw [← from_all, ← List.range_eq_range']; rfl
/-- The masks below a number, of one size, from the highest. -/
def masksF (l : List Int) (i m : Nat) : List (List Int) := ((List.range m).reverse.map (pickF l)).filter fun s => decide (s.length = i)
theorem masks_all (l : List Int) (i : Nat) : masksF l i (2 ^ l.length) = chooseF l i := choose_masks l i
theorem masks_succ (l : List Int) (i m : Nat) : masksF l i (m + 1) = (if (pickF l m).length = i then [pickF l m] else []) ++ masksF l i m := by
  rw [masksF, List.range_succ, List.reverse_append, List.map_append, List.filter_append]
  congr 1
  simp only [List.reverse_cons, List.reverse_nil, List.nil_append, List.map_cons, List.map_nil, List.filter_cons, List.filter_nil, decide_eq_true_eq]
def firstB (r : Option (List Int)) : AV := match r with
  | some s => .tuple [.sl (encI s) .free, .bool true]
  | none => .tuple [.sl [] .free, .bool false]
theorem app4 {α : Type} (h j : List α) (a b c d : α) : h ++ a :: b :: c :: d :: j = (h ++ [a, b, c]) ++ d :: j := by simp
structure SbS where
  m : Nat
  j : AH
end Go.Proofs.Ytelehpccfaedjaa

/- The program's Living, Margin, Dead. No conditions. -/
set_option linter.unusedSimpArgs false
set_option linter.unusedVariables false
namespace Go.Proofs.Ytelehpccfaedjaa
open Go Go.Proofs Go.Abs

theorem holdsR_err (g : Gt) (who : List Int) (h : (holdsR g who).2 ≠ 0) : (holdsR g who).1 = false := by
  unfold holdsR at h ⊢
  split
  · rename_i h1
    rw [if_pos h1] at h
    split
    · rename_i h2; rw [if_pos h2] at h; exact absurd rfl h
    · rfl
  · rfl
/-! ### Living, Margin, Dead -/
def peoF (g : Gt) : List Int := sortI (keysF [] g)
theorem lerr_len {g : Gt} {al : List Int} (h : lerrF g al = 0) : checkF g = 0 ∧ (peoF g).length ≤ 12 := by
  unfold lerrF at h
  split at h
  · rename_i h1
    split at h
    · omega
    · exact ⟨h1, by unfold peoF; rw [(sortI_perm _).length_eq]; omega⟩
  · rename_i h1; exact absurd h h1
theorem wt_wt (l al : List Int) : wtF l (wtF l al) = bothF l al := by
  unfold wtF bothF
  apply List.filter_congr
  intro x hx
  by_cases h : x ∈ al <;> simp [h, hx]
def livP (g : Gt) (al : List Int) : List Int × Bool × Int :=
  if lerrF g al = 0 then firstF (allF (bothF (peoF g) al)) (permF g) else ([], false, lerrF g al)
def marP (g : Gt) (al : List Int) : List Int × Bool × Int :=
  if lerrF g al = 0 then (if permF g al then firstF (allF (bothF (peoF g) al)) (fun s => !permF g (wtF (bothF (peoF g) al) s)) else ([], false, 0)) else ([], false, lerrF g al)
def deaP (g : Gt) (al : List Int) : List Int × Bool × Int :=
  if lerrF g al = 0 then (if permF g al then ([], false, 0) else firstF (allF (wtF (peoF g) al)) (fun s => !permF g (wtF (peoF g) s))) else ([], false, lerrF g al)
end Go.Proofs.Ytelehpccfaedjaa

/- The program's answers are the reference's. Plain. -/
set_option linter.unusedSimpArgs false
set_option linter.unusedVariables false
namespace Go.Proofs.Ytelehpccfaedjaa
open Go Go.Proofs Go.Abs

theorem putF_mem (p : Int) : ∀ l : List Int, l.Pairwise (· ≤ ·) → p ∈ l → putF p l = l
  | [], _, h => by simp at h
  | y :: r, hs, h => by
    rw [List.pairwise_cons] at hs
    rw [putF]
    split
    · rename_i h1
      have : p ∈ r := by rcases List.mem_cons.1 h with h | h; · omega
                         · exact h
      rw [putF_mem p r hs.2 this]
    · rename_i h1
      split
      · rfl
      · rename_i h2
        rcases List.mem_cons.1 h with h | h
        · omega
        · have := hs.1 p h; omega
theorem putF_perm (p : Int) : ∀ l : List Int, p ∉ l → (putF p l).Perm (p :: l)
  | [], _ => .refl _
  | y :: r, h => by
    rw [putF]
    split
    · exact ((putF_perm p r (fun e => h (List.mem_cons_of_mem _ e))).cons y).trans (.swap p y r)
    · split
      · rename_i h2; subst h2; exact absurd (List.mem_cons_self ..) h
      · exact .refl _
theorem putF_bd (p b : Int) (hb : b ≤ p) : ∀ l : List Int, (∀ x ∈ l, b ≤ x) → ∀ x ∈ putF p l, b ≤ x
  | [], _, x, hx => by simp [putF] at hx; omega
  | y :: r, h, x, hx => by
    rw [putF] at hx
    split at hx
    · rcases List.mem_cons.1 hx with rfl | hx
      · exact h _ (by simp)
      · exact putF_bd p b hb r (fun z hz => h z (by simp [hz])) x hx
    · split at hx
      · exact h x hx
      · rcases List.mem_cons.1 hx with rfl | hx
        · exact hb
        · exact h x hx
theorem putF_le (p : Int) : ∀ l : List Int, l.Pairwise (· ≤ ·) → (putF p l).Pairwise (· ≤ ·)
  | [], _ => by simp [putF]
  | y :: r, hs => by
    have hs0 := hs
    rw [List.pairwise_cons] at hs
    rw [putF]
    split
    · rename_i h1
      rw [List.pairwise_cons]
      exact ⟨putF_bd p y (by omega) r hs.1, putF_le p r hs.2⟩
    · split
      · exact hs0
      · rw [List.pairwise_cons]
        refine ⟨fun z hz => ?_, hs0⟩
        rcases List.mem_cons.1 hz with rfl | hz
        · omega
        · have := hs.1 z hz; omega
theorem put_sort (p : Int) (ks : List Int) : putF p (sortI ks) = sortI (addK p ks) := by
  unfold addK
  split
  · rename_i h
    exact putF_mem p _ (sortI_le ks) ((sortI_perm ks).mem_iff.2 h)
  · rename_i h
    refine sortI_of (putF_le p _ (sortI_le ks)) ?_
    refine (putF_perm p _ (fun e => h ((sortI_perm ks).mem_iff.1 e))).trans ?_
    refine ((sortI_perm ks).cons p).trans ?_
    exact (List.perm_append_comm (l₁ := ks) (l₂ := [p])).symm
mutual
theorem gath_keys : ∀ (g : Gt) (ks : List Int), rightF g = true → gathF (sortI ks) g = sortI (keysF ks g)
  | .mk p n l, ks, h => by
    rw [gathF, keysF]
    split
    · rename_i hp
      simp only [rightF, if_pos hp, Bool.and_eq_true, List.isEmpty_iff] at h
      rw [h.2, keysL, put_sort]
    · rename_i hp
      simp only [rightF, if_neg hp, Bool.and_eq_true] at h
      exact gath_keysL l ks h.2
theorem gath_keysL : ∀ (l : List Gt) (ks : List Int), rightL l = true → gathL (sortI ks) l = sortI (keysL ks l)
  | [], _, _ => rfl
  | x :: r, ks, h => by
    simp only [rightL, Bool.and_eq_true] at h
    rw [gathL, keysL, gath_keys x ks h.1, gath_keysL r _ h.2]
end
theorem peo_ppl {g : Gt} (h : rightF g = true) : peoF g = pplF g := (gath_keys g [] h).symm
theorem lerr_eq (g : Gt) (al : List Int) : lerrF g al = err51F g al := by
  unfold lerrF err51F errF
  by_cases h : checkF g = 0
  · have hl : (pplF g).length = (keysF [] g).length := by rw [← peo_ppl (checkF_right h)]; exact (sortI_perm _).length_eq
    rw [if_pos h, if_pos h, hl]
    by_cases h2 : 12 < (keysF [] g).length
    · have h3 : (12 : Int) < ((keysF [] g).length : Int) := by omega
      simp [h2, h3]
    · have h3 : ¬ (12 : Int) < ((keysF [] g).length : Int) := by omega
      simp [h2, h3]
  · rw [if_neg h, if_neg h, if_neg h]
theorem ppl_of_err {g : Gt} {al : List Int} (h : err51F g al = 0) : peoF g = pplF g := by
  rw [← lerr_eq] at h
  exact peo_ppl (checkF_right (lerr_len h).1)
theorem liv_eq (g : Gt) (al : List Int) : livP g al = livR g al := by
  unfold livP livR
  rw [lerr_eq]
  split
  · rename_i h; rw [ppl_of_err h]
  · rfl
theorem mar_eq (g : Gt) (al : List Int) : marP g al = marR g al := by
  unfold marP marR
  rw [lerr_eq]
  split
  · rename_i h; rw [ppl_of_err h]
  · rfl
theorem dea_eq (g : Gt) (al : List Int) : deaP g al = deaR g al := by
  unfold deaP deaR
  rw [lerr_eq]
  split
  · rename_i h; rw [ppl_of_err h]
  · rfl

/-! ### The law's own examples -/
def lf (n : Int) : Gt := .mk n 0 []
def twoG : Gt := .mk (-1) 2 [lf 1, lf 2, lf 3]
theorem ex1 : livP twoG [2, 3] = ([2, 3], true, 0) ∧ marP twoG [2, 3] = ([2], true, 0) ∧ deaP twoG [2, 3] = ([], false, 0) := by decide +kernel
end Go.Proofs.Ytelehpccfaedjaa

/- The law's own examples; its words on what it looks at. No conditions. -/
set_option linter.unusedSimpArgs false
set_option linter.unusedVariables false
namespace Go.Proofs.Ytelehpccfaedjaa
open Go Go.Proofs Go.Abs

structure Ex where
  g : Gt
  al : List Int
  a : List Int
  l : List Int
  b : List Int
  p : Bool
  q : Bool
  r : Bool
def encE (x : Ex) : AV := .agg ((encG x.g).cells ++ [.sl (encI x.al) .free, .sl (encI x.a) .free, .sl (encI x.l) .free, .sl (encI x.b) .free, .bool x.p, .bool x.q, .bool x.r])
def exL : List Ex := [⟨twoG, [2, 3], [2, 3], [2], [], true, true, false⟩, ⟨twoG, [1, 2, 3], [1, 2], [1, 2], [], true, true, false⟩, ⟨twoG, [3], [], [], [1, 2], false, false, true⟩,
  ⟨lf 5, [5], [5], [5], [], true, true, false⟩, ⟨lf 5, [], [], [], [5], false, false, true⟩, ⟨.mk (-1) 1 [], [5], [], [], [], false, false, true⟩, ⟨.mk (-1) 1 [lf 1, lf 2], [1, 2, 9], [1], [1, 2], [], true, true, false⟩]
theorem ex_facts : ∀ x ∈ exL, livP x.g x.al = (x.a, x.p, 0) ∧ marP x.g x.al = (x.l, x.q, 0) ∧ deaP x.g x.al = (x.b, x.r, 0) ∧ x.al.length ≤ 3 ∧ x.a.length ≤ 3 ∧ x.l.length ≤ 3 ∧ x.b.length ≤ 3 := by
  intro x hx
  have h : (exL.all fun x => decide (livP x.g x.al = (x.a, x.p, 0) ∧ marP x.g x.al = (x.l, x.q, 0) ∧ deaP x.g x.al = (x.b, x.r, 0) ∧ x.al.length ≤ 3 ∧ x.a.length ≤ 3 ∧ x.l.length ≤ 3 ∧ x.b.length ≤ 3)) = true := by decide +kernel
  exact of_decide_eq_true (List.all_eq_true.1 h x hx)
theorem sh_lf (n : Int) (h1 : -9223372036854775808 ≤ n) (h2 : n ≤ 9223372036854775807) : Sh (lf n) := .mk (by simp) (by simp) h1 h2 (by decide) (by decide)
theorem sh_two : Sh twoG := .mk (by simp) (by simp only [List.mem_cons, List.not_mem_nil, or_false]; rintro x (rfl | rfl | rfl) <;> exact sh_lf _ (by decide) (by decide)) (by decide) (by decide) (by decide) (by decide)
theorem ex_sh : ∀ x ∈ exL, Sh x.g := by
  simp only [exL, List.mem_cons, List.not_mem_nil, or_false]
  rintro x (rfl | rfl | rfl | rfl | rfl | rfl | rfl)
  · exact sh_two
  · exact sh_two
  · exact sh_two
  · exact sh_lf _ (by decide) (by decide)
  · exact sh_lf _ (by decide) (by decide)
  · exact .mk (by simp) (by simp) (by decide) (by decide) (by decide) (by decide)
  · exact .mk (by simp) (by simp only [List.mem_cons, List.not_mem_nil, or_false]; rintro x (rfl | rfl) <;> exact sh_lf _ (by decide) (by decide)) (by decide) (by decide) (by decide) (by decide)
end Go.Proofs.Ytelehpccfaedjaa
