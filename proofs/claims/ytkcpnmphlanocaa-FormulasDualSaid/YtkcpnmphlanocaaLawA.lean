/- The helpers of the statements on formulas. No conditions. -/
import Derived.Test.YtkcpnmphlanocaaFormB
set_option linter.unusedSimpArgs false
set_option linter.unusedVariables false
namespace Go.Proofs.Ytkcpnmphlanocaa
open Go Go.Proofs Go.Abs

def bitOf (n : Int) (i : Nat) : Bool := n.toNat.testBit i
theorem bit_and (n : Int) (i : Nat) (h0 : 0 ≤ n) (hi : i < 64) : bitsOp .and .u64 (n.fdiv (2 ^ (min i 64))) 1 = if bitOf n i then 1 else 0 := by
  obtain ⟨m, rfl⟩ := Int.eq_ofNat_of_zero_le h0
  have e : min i 64 = i := by omega
  rw [e, show ((2 : Int) ^ i) = ((2 ^ i : Nat) : Int) by norm_cast]
  have e2 : Int.fdiv (m : Int) ((2 ^ i : Nat) : Int) = ((m / 2 ^ i : Nat) : Int) := by rw [Int.ofNat_fdiv]
  rw [e2]
  simp only [bitOf, Int.toNat_natCast, Nat.testBit_eq_decide_div_mod_eq]
  generalize m / 2 ^ i = q
  have e3 : bitsOp .and .u64 (q : Int) 1 = IntKind.u64.wrap ((q % 2 : Nat) : Int) := by
    show IntKind.u64.wrap ((BitVec.ofInt 64 (q : Int) &&& BitVec.ofInt 64 ((1 : Nat) : Int)).toNat : Int) = _
    congr 2
    rw [BitVec.toNat_and, BitVec.ofInt_natCast, BitVec.ofInt_natCast, BitVec.toNat_ofNat, BitVec.toNat_ofNat]
    rw [show 1 % 2 ^ 64 = 1 from rfl, Nat.and_one_is_mod]
    omega
  rw [e3]
  rcases Nat.mod_two_eq_zero_or_one q with h | h <;> rw [h] <;> rfl

def peopleF (bits : Int) : List Nat := (List.range 64).filter (bitOf bits)
def encP (l : List Nat) : List AV := l.map fun i : Nat => .int .i64 (i : Int)

theorem range_at {n : Nat} {don r : List Nat} {x : Nat} (h : List.range n = don ++ x :: r) : x = don.length ∧ don.length < n := by
  have h1 : (List.range n)[don.length]? = some x := by rw [h]; simp
  have h2 : don.length < n := by have := congrArg List.length h; simp at this; omega
  rw [List.getElem?_range h2] at h1
  exact ⟨(Option.some.inj h1).symm, h2⟩

theorem rowsOK_P (l : List Nat) : RowsOK 1 (encP l) := fun r hr => by
  obtain ⟨i, _, rfl⟩ := List.mem_map.1 hr
  exact ⟨rfl, by simp [AV.cells, AV.one]⟩
theorem loose_P (l : List Nat) : looseL (encP l) = encP l := looseL_maps _ (fun _ => by rw [loose]) l
theorem rb_P (n : Nat) (l : List Nat) : RB n (.sl (encP l) .free) = True := eq_true (.sl' fun r hr => by
  obtain ⟨i, _, rfl⟩ := List.mem_map.1 hr
  exact .int _ _)
theorem people_calls (Γ : Nat → Option (List AV)) (bits : Int) (h : AH) (h0 : 0 ≤ bits) : ACalls Try.prog Γ 9 [.int .u64 bits] h fun v h' => h' = h ∧ v = .sl (encP (peopleF bits)) .free := by
  obtain ⟨L, hL⟩ : ∃ L, L = List.range 64 := ⟨_, rfl⟩
  have hLl : L.length = 64 := by rw [hL]; simp
  have hp : peopleF bits = L.filter (bitOf bits) := by rw [hL]; rfl
  refine ACalls.dropL ?_
  refine acalls_code (rs := [.tmp 2]) Try.func9 rfl rfl rfl rfl Ty.mixed rfl ?_
  simp (disch := omega) only [go_sem, bne_self_eq_false, beq_self_eq_true, true_and, and_true, decide_true, decide_false, wrap_i64, ↓reduceIte, Nat.reduceAdd, Nat.reduceSub, Nat.reduceMul, Nat.reduceEqDiff, Nat.reduceLeDiff, Int.reduceAdd, Int.reduceSub, Int.reduceNeg, Int.reduceLT, Int.reduceLE, Int.reduceEq, Int.reduceToNat, Nat.reduceMod]
  refine awp_loopL (β := Abs.Own × AH) L [4, 2, 0] (fun don b => [(4, .int .i64 don.length), (2, .sl (encP (don.filter (bitOf bits))) b.1), (0, .int .u64 bits)])
    (fun b => h ++ b.2) (fun don rest b => OwnAt h b.2 (encP (don.filter (bitOf bits))).length b.1) (.full, []) ?_ (by simp) trivial Ty.mixed rfl ?_ ?_
  · simp (disch := omega) only [go_sem, bne_self_eq_false, beq_self_eq_true, true_and, and_true, decide_true, decide_false, wrap_i64, ↓reduceIte, Nat.reduceAdd, Nat.reduceSub, Nat.reduceMul, Nat.reduceEqDiff, Nat.reduceLeDiff, Int.reduceAdd, Int.reduceSub, Int.reduceNeg, Int.reduceLT, Int.reduceLE, Int.reduceEq, Int.reduceToNat, Nat.reduceMod]
    rfl
  · rintro don x r ⟨own, j⟩ hl ho
    obtain ⟨rfl, hx⟩ := range_at (hL.symm.trans hl)
    simp only at ho ⊢
    simp (disch := omega) only [go_sem, bne_self_eq_false, beq_self_eq_true, true_and, and_true, decide_true, decide_false, wrap_i64, ↓reduceIte, Nat.reduceAdd, Nat.reduceSub, Nat.reduceMul, Nat.reduceEqDiff, Nat.reduceLeDiff, Int.reduceAdd, Int.reduceSub, Int.reduceNeg, Int.reduceLT, Int.reduceLE, Int.reduceEq, Int.reduceToNat, Nat.reduceMod]
    refine aIf.pos (by omega) ?_
    simp (disch := omega) only [go_sem, bne_self_eq_false, beq_self_eq_true, true_and, and_true, decide_true, decide_false, wrap_i64, ↓reduceIte, Nat.reduceAdd, Nat.reduceSub, Nat.reduceMul, Nat.reduceEqDiff, Nat.reduceLeDiff, Int.reduceAdd, Int.reduceSub, Int.reduceNeg, Int.reduceLT, Int.reduceLE, Int.reduceEq, Int.reduceToNat, Nat.reduceMod]
    rw [bit_and _ _ h0 hx]
    have hlen : (don.filter (bitOf bits)).length ≤ don.length := List.length_filter_le ..
    refine aIf.intro (fun hb => ?_) (fun hb => ?_) <;> simp (disch := omega) only [go_sem, bne_self_eq_false, beq_self_eq_true, true_and, and_true, decide_true, decide_false, wrap_i64, ↓reduceIte, Nat.reduceAdd, Nat.reduceSub, Nat.reduceMul, Nat.reduceEqDiff, Nat.reduceLeDiff, Int.reduceAdd, Int.reduceSub, Int.reduceNeg, Int.reduceLT, Int.reduceLE, Int.reduceEq, Int.reduceToNat, Nat.reduceMod]
    · have hbit : bitOf bits don.length = true := by cases hq : bitOf bits don.length <;> simp [hq] at hb ⊢
      refine aAp_sl ho (rowsOK_P _) ?_ ?_ ?_ (fun j' own' ho' _ => ?_)
      · exact RowsOK.cons rfl (by simp [AV.cells, AV.one]) (.nil _)
      · simp [encP]; omega
      · simp [encP]; omega
      simp (disch := omega) only [go_sem, bne_self_eq_false, beq_self_eq_true, true_and, and_true, decide_true, decide_false, wrap_i64, ↓reduceIte, Nat.reduceAdd, Nat.reduceSub, Nat.reduceMul, Nat.reduceEqDiff, Nat.reduceLeDiff, Int.reduceAdd, Int.reduceSub, Int.reduceNeg, Int.reduceLT, Int.reduceLE, Int.reduceEq, Int.reduceToNat, Nat.reduceMod]
      refine roundL_next (own', j') ?_ ?_ rfl
      · simpa [List.filter_append, hbit, encP] using ho'
      · simp (disch := omega) only [go_sem, bne_self_eq_false, beq_self_eq_true, true_and, and_true, decide_true, decide_false, wrap_i64, ↓reduceIte, Nat.reduceAdd, Nat.reduceSub, Nat.reduceMul, Nat.reduceEqDiff, Nat.reduceLeDiff, Int.reduceAdd, Int.reduceSub, Int.reduceNeg, Int.reduceLT, Int.reduceLE, Int.reduceEq, Int.reduceToNat, Nat.reduceMod, List.length_append, List.filter_append, hbit, encP, List.map_append]
        simp [hbit]
    · have hbit : bitOf bits don.length = false := by cases hq : bitOf bits don.length <;> simp [hq] at hb ⊢
      refine roundL_next (own, j) ?_ ?_ rfl
      · simpa [List.filter_append, hbit] using ho
      · simp (disch := omega) only [go_sem, bne_self_eq_false, beq_self_eq_true, true_and, and_true, decide_true, decide_false, wrap_i64, ↓reduceIte, Nat.reduceAdd, Nat.reduceSub, Nat.reduceMul, Nat.reduceEqDiff, Nat.reduceLeDiff, Int.reduceAdd, Int.reduceSub, Int.reduceNeg, Int.reduceLT, Int.reduceLE, Int.reduceEq, Int.reduceToNat, Nat.reduceMod, List.length_append, List.filter_append, hbit]
        simp [hbit]
  · rintro ⟨own, j⟩ ho
    simp (disch := omega) only [go_sem, bne_self_eq_false, beq_self_eq_true, true_and, and_true, decide_true, decide_false, wrap_i64, ↓reduceIte, Nat.reduceAdd, Nat.reduceSub, Nat.reduceMul, Nat.reduceEqDiff, Nat.reduceLeDiff, Int.reduceAdd, Int.reduceSub, Int.reduceNeg, Int.reduceLT, Int.reduceLE, Int.reduceEq, Int.reduceToNat, Nat.reduceMod, hLl]
    refine AWP.keep [2] (aCode_ok Ty.mixed _ _ _ _ rfl ?_)
    simp (disch := omega) only [go_sem, bne_self_eq_false, beq_self_eq_true, true_and, and_true, decide_true, decide_false, wrap_i64, ↓reduceIte, Nat.reduceAdd, Nat.reduceSub, Nat.reduceMul, Nat.reduceEqDiff, Nat.reduceLeDiff, Int.reduceAdd, Int.reduceSub, Int.reduceNeg, Int.reduceLT, Int.reduceLE, Int.reduceEq, Int.reduceToNat, Nat.reduceMod, loose_P, rb_P]
    rw [hp]

/-! ### Holds -/
def ascF : Int → List Int → Bool
  | _, [] => true
  | last, n :: r => decide (last < n) && decide (n < 64) && ascF n r
def encI (l : List Int) : List AV := l.map fun i => .int .i64 i
def lastOf : List Int → Int
  | [] => -1
  | l => l.getLastD (-1)
def holdsR (g : Gt) (who : List Int) : Bool × Int :=
  if checkF g = 0 then (if ascF (-1) who then (holdsF (fun p => decide (p ∈ who)) g, 0) else (false, 1)) else (false, checkF g)
def encR (r : Bool × Int) : AV := .tuple [.bool r.1, .int .i64 r.2]

theorem find_new (l : List Int) (i : Nat) (n : Int) (h : ∀ m ∈ l, m < n) : aFind (.int .i64 n) (entsFrom i l) = some none := by
  rcases find_ents n l i with ⟨h1, _⟩ | ⟨_, h2⟩
  · have := h n h1; omega
  · exact h2

theorem checkF_right {g : Gt} (h : checkF g = 0) : rightF g = true := by
  unfold checkF at h
  split at h
  · omega
  · split at h
    · assumption
    · omega

theorem Holds_calls (Γ : Nat → Option (List AV)) (g : Gt) (who : List Int) (h : AH) (hs : Sh g) (hw : who.length ≤ 9223372036854775807) :
    ACalls Try.prog Γ 8 [encG g, .sl (encI who) .free] h fun v h' => h' = h ∧ v = encR (holdsR g who) := by
  refine ACalls.drop ?_
  refine acalls_code (rs := [.tmp 4, .tmp 5]) Try.func8 rfl rfl rfl rfl Ty.mixed rfl ?_
  simp (disch := omega) only [go_sem, bne_self_eq_false, beq_self_eq_true, true_and, and_true, decide_true, decide_false, wrap_i64, ↓reduceIte, Nat.reduceAdd, Nat.reduceSub, Nat.reduceMul, Nat.reduceEqDiff, Nat.reduceLeDiff, Int.reduceAdd, Int.reduceSub, Int.reduceNeg, Int.reduceLT, Int.reduceLE, Int.reduceEq, Int.reduceToNat, Nat.reduceMod]
  refine ACalls.det (check_calls Γ g _ hs) ?_
  simp (disch := omega) only [go_sem, bne_self_eq_false, beq_self_eq_true, true_and, and_true, decide_true, decide_false, wrap_i64, ↓reduceIte, Nat.reduceAdd, Nat.reduceSub, Nat.reduceMul, Nat.reduceEqDiff, Nat.reduceLeDiff, Int.reduceAdd, Int.reduceSub, Int.reduceNeg, Int.reduceLT, Int.reduceLE, Int.reduceEq, Int.reduceToNat, Nat.reduceMod]
  refine aIf.intro (fun h1 => ?_) (fun h1 => ?_) <;> simp (disch := omega) only [go_sem, bne_self_eq_false, beq_self_eq_true, true_and, and_true, decide_true, decide_false, wrap_i64, ↓reduceIte, Nat.reduceAdd, Nat.reduceSub, Nat.reduceMul, Nat.reduceEqDiff, Nat.reduceLeDiff, Int.reduceAdd, Int.reduceSub, Int.reduceNeg, Int.reduceLT, Int.reduceLE, Int.reduceEq, Int.reduceToNat, Nat.reduceMod]
  rotate_left
  · simp [holdsR, h1, encR]
  have hg := checkF_right h1
  refine awp_loopL (β := Int × List Int) who [19, 18, 17, 8, 7, 2] (fun don b => [(19, .int .i64 don.length), (18, .int .i64 who.length), (17, .sl (encI who) .free), (8, .int .i64 b.1), (7, .map (some (h.length + 1))), (2, .ptr (some (h.length, 0)))])
    (fun b => h ++ [.row (encG g).cells 24, .map (entsFrom 0 b.2) b.2.length]) (fun don rest b => b.2 = don ∧ (∀ m ∈ don, m ≤ b.1) ∧ ascF (-1) who = ascF b.1 rest) (-1, []) ?_ rfl ⟨rfl, by simp, rfl⟩ Ty.mixed rfl ?_ ?_
  · simp (disch := omega) only [go_sem, bne_self_eq_false, beq_self_eq_true, true_and, and_true, decide_true, decide_false, wrap_i64, ↓reduceIte, Nat.reduceAdd, Nat.reduceSub, Nat.reduceMul, Nat.reduceEqDiff, Nat.reduceLeDiff, Int.reduceAdd, Int.reduceSub, Int.reduceNeg, Int.reduceLT, Int.reduceLE, Int.reduceEq, Int.reduceToNat, Nat.reduceMod, encI, List.length_map]
  · rintro don x r ⟨b, don⟩ rfl ⟨rfl, hb, hx⟩
    have hl3 := len_mid hw
    simp only at hb hx hl3 ⊢
    simp (disch := omega) only [go_sem, bne_self_eq_false, beq_self_eq_true, true_and, and_true, decide_true, decide_false, wrap_i64, ↓reduceIte, Nat.reduceAdd, Nat.reduceSub, Nat.reduceMul, Nat.reduceEqDiff, Nat.reduceLeDiff, Int.reduceAdd, Int.reduceSub, Int.reduceNeg, Int.reduceLT, Int.reduceLE, Int.reduceEq, Int.reduceToNat, Nat.reduceMod, encI, List.map_append, List.map_cons, List.length_append]
    refine aIf.pos (by omega) ?_
    simp (disch := omega) only [go_sem, bne_self_eq_false, beq_self_eq_true, true_and, and_true, decide_true, decide_false, wrap_i64, ↓reduceIte, Nat.reduceAdd, Nat.reduceSub, Nat.reduceMul, Nat.reduceEqDiff, Nat.reduceLeDiff, Int.reduceAdd, Int.reduceSub, Int.reduceNeg, Int.reduceLT, Int.reduceLE, Int.reduceEq, Int.reduceToNat, Nat.reduceMod]
    refine aIf.intro (fun h2 => ?_) (fun h2 => ?_) <;> simp (disch := omega) only [go_sem, bne_self_eq_false, beq_self_eq_true, true_and, and_true, decide_true, decide_false, wrap_i64, ↓reduceIte, Nat.reduceAdd, Nat.reduceSub, Nat.reduceMul, Nat.reduceEqDiff, Nat.reduceLeDiff, Int.reduceAdd, Int.reduceSub, Int.reduceNeg, Int.reduceLT, Int.reduceLE, Int.reduceEq, Int.reduceToNat, Nat.reduceMod]
    · simp [holdsR, h1, hx, ascF, encR, show ¬ b < x by omega]
    refine aIf.intro (fun h3 => ?_) (fun h3 => ?_) <;> simp (disch := omega) only [go_sem, bne_self_eq_false, beq_self_eq_true, true_and, and_true, decide_true, decide_false, wrap_i64, ↓reduceIte, Nat.reduceAdd, Nat.reduceSub, Nat.reduceMul, Nat.reduceEqDiff, Nat.reduceLeDiff, Int.reduceAdd, Int.reduceSub, Int.reduceNeg, Int.reduceLT, Int.reduceLE, Int.reduceEq, Int.reduceToNat, Nat.reduceMod]
    · simp [holdsR, h1, hx, ascF, encR, show ¬ x < 64 by omega]
    have hnew := find_new don 0 x (fun m hm => by have := hb m hm; omega)
    rw [hnew]
    simp (disch := omega) only [go_sem, bne_self_eq_false, beq_self_eq_true, true_and, and_true, decide_true, decide_false, wrap_i64, ↓reduceIte, Nat.reduceAdd, Nat.reduceSub, Nat.reduceMul, Nat.reduceEqDiff, Nat.reduceLeDiff, Int.reduceAdd, Int.reduceSub, Int.reduceNeg, Int.reduceLT, Int.reduceLE, Int.reduceEq, Int.reduceToNat, Nat.reduceMod, Option.bind_some, putEnt]
    refine roundL_next (x, don ++ [x]) ⟨rfl, fun m hm => ?_, ?_⟩ ?_ ?_
    · rcases List.mem_append.1 hm with hm | hm
      · have := hb m hm; simp only; omega
      · simp at hm; simp only; omega
    · rw [hx]; simp [ascF, show b < x by omega, show x < 64 by omega]
    · simp (disch := omega) only [go_sem, bne_self_eq_false, beq_self_eq_true, true_and, and_true, decide_true, decide_false, wrap_i64, ↓reduceIte, Nat.reduceAdd, Nat.reduceSub, Nat.reduceMul, Nat.reduceEqDiff, Nat.reduceLeDiff, Int.reduceAdd, Int.reduceSub, Int.reduceNeg, Int.reduceLT, Int.reduceLE, Int.reduceEq, Int.reduceToNat, Nat.reduceMod, List.length_append, encI, List.map_append, List.map_cons]
    · simp [entsFrom_app, entsFrom]
  · rintro ⟨b, w⟩ ⟨hw', hb, hx⟩
    simp only at hw' hx
    subst hw'
    simp (disch := omega) only [go_sem, bne_self_eq_false, beq_self_eq_true, true_and, and_true, decide_true, decide_false, wrap_i64, ↓reduceIte, Nat.reduceAdd, Nat.reduceSub, Nat.reduceMul, Nat.reduceEqDiff, Nat.reduceLeDiff, Int.reduceAdd, Int.reduceSub, Int.reduceNeg, Int.reduceLT, Int.reduceLE, Int.reduceEq, Int.reduceToNat, Nat.reduceMod, encI, List.length_map]
    refine AWP.keep [7, 2] (aCode_ok Ty.mixed _ _ _ _ rfl ?_)
    simp (disch := omega) only [go_sem, bne_self_eq_false, beq_self_eq_true, true_and, and_true, decide_true, decide_false, wrap_i64, ↓reduceIte, Nat.reduceAdd, Nat.reduceSub, Nat.reduceMul, Nat.reduceEqDiff, Nat.reduceLeDiff, Int.reduceAdd, Int.reduceSub, Int.reduceNeg, Int.reduceLT, Int.reduceLE, Int.reduceEq, Int.reduceToNat, Nat.reduceMod]
    refine ACalls.det (holds_calls_k Γ w w.length _ g _ (h.length + 1) (Nat.lt_succ_self _) hs hg (by simp (disch := omega) only [go_sem, bne_self_eq_false, beq_self_eq_true, true_and, and_true, decide_true, decide_false, wrap_i64, ↓reduceIte, Nat.reduceAdd, Nat.reduceSub, Nat.reduceMul, Nat.reduceEqDiff, Nat.reduceLeDiff, Int.reduceAdd, Int.reduceSub, Int.reduceNeg, Int.reduceLT, Int.reduceLE, Int.reduceEq, Int.reduceToNat, Nat.reduceMod])) ?_
    simp (disch := omega) only [go_sem, bne_self_eq_false, beq_self_eq_true, true_and, and_true, decide_true, decide_false, wrap_i64, ↓reduceIte, Nat.reduceAdd, Nat.reduceSub, Nat.reduceMul, Nat.reduceEqDiff, Nat.reduceLeDiff, Int.reduceAdd, Int.reduceSub, Int.reduceNeg, Int.reduceLT, Int.reduceLE, Int.reduceEq, Int.reduceToNat, Nat.reduceMod]
    simp [holdsR, h1, hx, ascF, encR]
end Go.Proofs.Ytkcpnmphlanocaa
