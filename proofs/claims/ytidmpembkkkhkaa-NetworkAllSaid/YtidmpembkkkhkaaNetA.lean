/- Packets, links and nets; the small functions on them. No conditions. -/
import Derived.Test.YtidmpembkkkhkaaTy
import Derived.Test.YtidmpembkkkhkaaAbsR
set_option linter.unusedSimpArgs false
set_option linter.unusedVariables false
namespace Go.Proofs.Ytidmpembkkkhkaa
open Go Go.Proofs Go.Abs

/-- A packet. -/
structure Pk where
  f : Int
  t : Int
  d : List UInt8
  deriving DecidableEq
/-- A net: its queue, its links that are cut. -/
structure Nt where
  q : List Pk
  a : List (Int × Int)
  deriving DecidableEq

def encB (b : UInt8) : AV := .int .u8 (b.toNat : Int)
def encK (p : Pk) : AV := .agg [.int .i64 p.f, .int .i64 p.t, .sl (p.d.map encB) .free]
def encL (l : Int × Int) : AV := .agg [.int .i64 l.1, .int .i64 l.2]
def encN (n : Nt) : AV := .agg [.sl (n.q.map encK) .free, .sl (n.a.map encL) .free]

theorem bytes_B (l : List UInt8) : bytesOf (l.map encB) = some l := by
  induction l with
  | nil => rfl
  | cons b l ih => simp [bytesOf, encB, ih]
theorem encK_len (p : Pk) : (encK p).cells.length = 3 := rfl
theorem encK_take (p : Pk) : AV.agg ((encK p).cells.take 3) = encK p := rfl
theorem encK_good (p : Pk) : (encK p).good = true := rfl
theorem encK_isAgg (p : Pk) : (encK p).isAgg = true := rfl
theorem encK_splice (a b c : AV) (p : Pk) : splice [a, b, c] 0 (encK p).cells = (encK p).cells := rfl
theorem encL_len (p : Int × Int) : (encL p).cells.length = 2 := rfl
theorem encL_take (p : Int × Int) : AV.agg ((encL p).cells.take 2) = encL p := rfl
theorem encL_good (p : Int × Int) : (encL p).good = true := rfl
theorem encL_isAgg (p : Int × Int) : (encL p).isAgg = true := rfl
theorem encL_splice (a b : AV) (p : Int × Int) : splice [a, b] 0 (encL p).cells = (encL p).cells := rfl
theorem encN_len (p : Nt) : (encN p).cells.length = 2 := rfl
theorem encN_take (p : Nt) : AV.agg ((encN p).cells.take 2) = encN p := rfl
theorem encN_good (p : Nt) : (encN p).good = true := rfl
theorem encN_splice (a b : AV) (p : Nt) : splice [a, b] 0 (encN p).cells = (encN p).cells := rfl
theorem loose_B (b : UInt8) : loose (encB b) = encB b := by rw [encB, loose]
theorem loose_Bs (l : List UInt8) : looseL (l.map encB) = l.map encB := looseL_maps _ loose_B l
theorem loose_K (p : Pk) : loose (encK p) = encK p := by simp only [encK, loose, looseL, loose_Bs]
theorem loose_Ks (l : List Pk) : looseL (l.map encK) = l.map encK := looseL_maps _ loose_K l
theorem loose_L (p : Int × Int) : loose (encL p) = encL p := by simp only [encL, loose, looseL]
theorem loose_Ls (l : List (Int × Int)) : looseL (l.map encL) = l.map encL := looseL_maps _ loose_L l
theorem loose_N (n : Nt) : loose (encN n) = encN n := by simp only [encN, loose, looseL, loose_Ks, loose_Ls]
theorem rb_Bs (k : Nat) (l : List UInt8) : RB k (.sl (l.map encB) .free) := .sl' fun r hr => by
  obtain ⟨b, _, rfl⟩ := List.mem_map.1 hr
  exact .int _ _
theorem rb_K0 (k : Nat) (p : Pk) : RB k (encK p) := .agg' (.cons (.int _ _) (.cons (.int _ _) (.cons (rb_Bs k _) (.nil _))))
theorem rb_L0 (k : Nat) (p : Int × Int) : RB k (encL p) := .agg' (.cons (.int _ _) (.cons (.int _ _) (.nil _)))
theorem rb_Ks0 (k : Nat) (l : List Pk) : RB k (.sl (l.map encK) .free) := .sl' fun r hr => by
  obtain ⟨b, _, rfl⟩ := List.mem_map.1 hr
  exact rb_K0 k b
theorem rb_Ls0 (k : Nat) (l : List (Int × Int)) : RB k (.sl (l.map encL) .free) := .sl' fun r hr => by
  obtain ⟨b, _, rfl⟩ := List.mem_map.1 hr
  exact rb_L0 k b
theorem rb_B (k : Nat) (l : List UInt8) : RB k (.sl (l.map encB) .free) = True := eq_true (rb_Bs k l)
theorem rb_K (k : Nat) (p : Pk) : RB k (encK p) = True := eq_true (rb_K0 k p)
theorem rb_L (k : Nat) (p : Int × Int) : RB k (encL p) = True := eq_true (rb_L0 k p)
theorem rb_Ks (k : Nat) (l : List Pk) : RB k (.sl (l.map encK) .free) = True := eq_true (rb_Ks0 k l)
theorem rb_Ls (k : Nat) (l : List (Int × Int)) : RB k (.sl (l.map encL) .free) = True := eq_true (rb_Ls0 k l)
theorem rb_N (k : Nat) (n : Nt) : RB k (encN n) = True := eq_true (.agg' (.cons (rb_Ks0 k _) (.cons (rb_Ls0 k _) (.nil _))))
theorem rows_B (l : List UInt8) : RowsOK 1 (l.map encB) := fun r hr => by
  obtain ⟨b, _, rfl⟩ := List.mem_map.1 hr
  exact ⟨rfl, by simp [encB, AV.cells, AV.one]⟩
theorem rows_K (l : List Pk) : RowsOK 3 (l.map encK) := fun r hr => by
  obtain ⟨b, _, rfl⟩ := List.mem_map.1 hr
  exact ⟨rfl, by simp [encK, AV.cells, AV.one]⟩
theorem rows_L (l : List (Int × Int)) : RowsOK 2 (l.map encL) := fun r hr => by
  obtain ⟨b, _, rfl⟩ := List.mem_map.1 hr
  exact ⟨rfl, by simp [encL, AV.cells, AV.one]⟩
attribute [go_sem] bytes_B encK_len encK_take encK_good encK_isAgg encK_splice encL_len encL_take encL_good encL_isAgg encL_splice encN_len encN_take encN_good encN_splice loose_B loose_Bs loose_K loose_Ks loose_L loose_Ls loose_N rb_B rb_K rb_L rb_Ks rb_Ls rb_N
theorem len_mid {α : Type} {don r : List α} {x : α} {k : Nat} (h : (don ++ x :: r).length ≤ k) : don.length + 1 + r.length ≤ k := by simp at h; omega

def siteF (n : Int) : Bool := decide (0 ≤ n) && decide (n < 24)
def packetF (p : Pk) : Bool := siteF p.f && siteF p.t && decide (p.f ≠ p.t) && decide ((p.d.length : Int) ≤ 1048576)
def betw (a b : Int) : Int × Int := (if b < a then b else a, if a < b then b else a)
def validF (l : Int × Int) : Bool := decide (0 ≤ l.1) && decide (l.1 < l.2) && decide (l.2 < 24)
theorem validF_iff (l : Int × Int) : validF l = true ↔ 0 ≤ l.1 ∧ l.1 < l.2 ∧ l.2 < 24 := by simp [validF, and_assoc]
theorem packetF_iff (p : Pk) : packetF p = true ↔ 0 ≤ p.f ∧ p.f < 24 ∧ 0 ≤ p.t ∧ p.t < 24 ∧ p.f ≠ p.t ∧ (p.d.length : Int) ≤ 1048576 := by simp [packetF, siteF, and_assoc]
theorem packet_valid (p : Pk) : (validF (betw p.f p.t) && decide ((p.d.length : Int) ≤ 1048576)) = packetF p := by
  rw [Bool.eq_iff_iff, Bool.and_eq_true, validF_iff, packetF_iff, decide_eq_true_eq]
  unfold betw
  dsimp only
  split <;> split <;> omega

theorem site_calls (Γ : Nat → Option (List AV)) (n : Int) (h : AH) : ACalls Try.prog Γ 34 [.int .i64 n] h fun v h' => h' = h ∧ v = .bool (siteF n) := by
  refine ACalls.drop ?_
  refine acalls_code (rs := [.tmp 2]) Try.func34 rfl rfl rfl rfl Ty.mixed (by kernel_rfl) ?_
  simp (disch := omega) only [go_sem, bne_self_eq_false, beq_self_eq_true, true_and, and_true, decide_true, decide_false, wrap_i64, ↓reduceIte, Nat.reduceAdd, Nat.reduceSub, Nat.reduceMul, Nat.reduceEqDiff, Nat.reduceLeDiff, Int.reduceAdd, Int.reduceSub, Int.reduceNeg, Int.reduceLT, Int.reduceLE, Int.reduceEq, Int.reduceToNat, Nat.reduceMod]
  refine aIf.intro (fun h1 => ?_) (fun h1 => ?_) <;> simp (disch := omega) only [go_sem, bne_self_eq_false, beq_self_eq_true, true_and, and_true, decide_true, decide_false, wrap_i64, ↓reduceIte, Nat.reduceAdd, Nat.reduceSub, Nat.reduceMul, Nat.reduceEqDiff, Nat.reduceLeDiff, Int.reduceAdd, Int.reduceSub, Int.reduceNeg, Int.reduceLT, Int.reduceLE, Int.reduceEq, Int.reduceToNat, Nat.reduceMod] <;> simp [siteF, h1]
theorem refpacket_calls (Γ : Nat → Option (List AV)) (p : Pk) (h : AH) : ACalls Try.prog Γ 29 [encK p] h fun v h' => h' = h ∧ v = .bool (packetF p) := by
  refine ACalls.drop ?_
  refine acalls_code (rs := [.tmp 2]) Try.func29 rfl rfl rfl rfl Ty.mixed (by kernel_rfl) ?_
  simp (disch := omega) only [go_sem, bne_self_eq_false, beq_self_eq_true, true_and, and_true, decide_true, decide_false, wrap_i64, ↓reduceIte, Nat.reduceAdd, Nat.reduceSub, Nat.reduceMul, Nat.reduceEqDiff, Nat.reduceLeDiff, Int.reduceAdd, Int.reduceSub, Int.reduceNeg, Int.reduceLT, Int.reduceLE, Int.reduceEq, Int.reduceToNat, Nat.reduceMod, encK]
  refine ACalls.det (site_calls Γ p.f _) ?_
  simp (disch := omega) only [go_sem, bne_self_eq_false, beq_self_eq_true, true_and, and_true, decide_true, decide_false, wrap_i64, ↓reduceIte, Nat.reduceAdd, Nat.reduceSub, Nat.reduceMul, Nat.reduceEqDiff, Nat.reduceLeDiff, Int.reduceAdd, Int.reduceSub, Int.reduceNeg, Int.reduceLT, Int.reduceLE, Int.reduceEq, Int.reduceToNat, Nat.reduceMod]
  refine aBr.intro (fun h1 => ?_) (fun h1 => ?_) <;> simp (disch := omega) only [go_sem, bne_self_eq_false, beq_self_eq_true, true_and, and_true, decide_true, decide_false, wrap_i64, ↓reduceIte, Nat.reduceAdd, Nat.reduceSub, Nat.reduceMul, Nat.reduceEqDiff, Nat.reduceLeDiff, Int.reduceAdd, Int.reduceSub, Int.reduceNeg, Int.reduceLT, Int.reduceLE, Int.reduceEq, Int.reduceToNat, Nat.reduceMod]
  · refine ACalls.det (site_calls Γ p.t _) ?_
    simp (disch := omega) only [go_sem, bne_self_eq_false, beq_self_eq_true, true_and, and_true, decide_true, decide_false, wrap_i64, ↓reduceIte, Nat.reduceAdd, Nat.reduceSub, Nat.reduceMul, Nat.reduceEqDiff, Nat.reduceLeDiff, Int.reduceAdd, Int.reduceSub, Int.reduceNeg, Int.reduceLT, Int.reduceLE, Int.reduceEq, Int.reduceToNat, Nat.reduceMod]
    refine aBr.intro (fun h2 => ?_) (fun h2 => ?_) <;> simp (disch := omega) only [go_sem, bne_self_eq_false, beq_self_eq_true, true_and, and_true, decide_true, decide_false, wrap_i64, ↓reduceIte, Nat.reduceAdd, Nat.reduceSub, Nat.reduceMul, Nat.reduceEqDiff, Nat.reduceLeDiff, Int.reduceAdd, Int.reduceSub, Int.reduceNeg, Int.reduceLT, Int.reduceLE, Int.reduceEq, Int.reduceToNat, Nat.reduceMod]
    · refine aIf.intro (fun h3 => ?_) (fun h3 => ?_) <;> simp (disch := omega) only [go_sem, bne_self_eq_false, beq_self_eq_true, true_and, and_true, decide_true, decide_false, wrap_i64, ↓reduceIte, Nat.reduceAdd, Nat.reduceSub, Nat.reduceMul, Nat.reduceEqDiff, Nat.reduceLeDiff, Int.reduceAdd, Int.reduceSub, Int.reduceNeg, Int.reduceLT, Int.reduceLE, Int.reduceEq, Int.reduceToNat, Nat.reduceMod]
      · simp [packetF, h1, h2, h3]
      · simp [packetF, h1, h2, h3]
    · simp only [packetF, h1, h2]; rfl
  · simp only [packetF, h1]; rfl
theorem between_calls (Γ : Nat → Option (List AV)) (a b : Int) (h : AH) : ACalls Try.prog Γ 37 [.int .i64 a, .int .i64 b] h fun v h' => h' = h ∧ v = encL (betw a b) := by
  refine ACalls.drop ?_
  refine acalls_code (rs := [.cell 4 58]) Try.func37 rfl rfl rfl rfl Ty.mixed (by kernel_rfl) ?_
  simp (disch := omega) only [go_sem, bne_self_eq_false, beq_self_eq_true, true_and, and_true, decide_true, decide_false, wrap_i64, ↓reduceIte, Nat.reduceAdd, Nat.reduceSub, Nat.reduceMul, Nat.reduceEqDiff, Nat.reduceLeDiff, Int.reduceAdd, Int.reduceSub, Int.reduceNeg, Int.reduceLT, Int.reduceLE, Int.reduceEq, Int.reduceToNat, Nat.reduceMod]
  rfl
theorem valid_calls (Γ : Nat → Option (List AV)) (l : Int × Int) (h : AH) : ACalls Try.prog Γ 32 [encL l] h fun v h' => h' = h ∧ v = .bool (validF l) := by
  refine ACalls.drop ?_
  refine acalls_code (rs := [.tmp 2]) Try.func32 rfl rfl rfl rfl Ty.mixed (by kernel_rfl) ?_
  simp (disch := omega) only [go_sem, bne_self_eq_false, beq_self_eq_true, true_and, and_true, decide_true, decide_false, wrap_i64, ↓reduceIte, Nat.reduceAdd, Nat.reduceSub, Nat.reduceMul, Nat.reduceEqDiff, Nat.reduceLeDiff, Int.reduceAdd, Int.reduceSub, Int.reduceNeg, Int.reduceLT, Int.reduceLE, Int.reduceEq, Int.reduceToNat, Nat.reduceMod, encL]
  refine aIf.intro (fun h1 => ?_) (fun h1 => ?_) <;> simp (disch := omega) only [go_sem, bne_self_eq_false, beq_self_eq_true, true_and, and_true, decide_true, decide_false, wrap_i64, ↓reduceIte, Nat.reduceAdd, Nat.reduceSub, Nat.reduceMul, Nat.reduceEqDiff, Nat.reduceLeDiff, Int.reduceAdd, Int.reduceSub, Int.reduceNeg, Int.reduceLT, Int.reduceLE, Int.reduceEq, Int.reduceToNat, Nat.reduceMod]
  · refine aIf.intro (fun h2 => ?_) (fun h2 => ?_) <;> simp (disch := omega) only [go_sem, bne_self_eq_false, beq_self_eq_true, true_and, and_true, decide_true, decide_false, wrap_i64, ↓reduceIte, Nat.reduceAdd, Nat.reduceSub, Nat.reduceMul, Nat.reduceEqDiff, Nat.reduceLeDiff, Int.reduceAdd, Int.reduceSub, Int.reduceNeg, Int.reduceLT, Int.reduceLE, Int.reduceEq, Int.reduceToNat, Nat.reduceMod] <;> simp [validF, h1, h2]
  · simp [validF, h1]
theorem packet_calls (Γ : Nat → Option (List AV)) (p : Pk) (h : AH) : ACalls Try.prog Γ 28 [encK p] h fun v h' => h' = h ∧ v = .bool (packetF p) := by
  refine ACalls.drop ?_
  refine acalls_code (rs := [.tmp 2]) Try.func28 rfl rfl rfl rfl Ty.mixed (by kernel_rfl) ?_
  simp (disch := omega) only [go_sem, bne_self_eq_false, beq_self_eq_true, true_and, and_true, decide_true, decide_false, wrap_i64, ↓reduceIte, Nat.reduceAdd, Nat.reduceSub, Nat.reduceMul, Nat.reduceEqDiff, Nat.reduceLeDiff, Int.reduceAdd, Int.reduceSub, Int.reduceNeg, Int.reduceLT, Int.reduceLE, Int.reduceEq, Int.reduceToNat, Nat.reduceMod, encK]
  refine ACalls.det (between_calls Γ _ _ _) ?_
  simp (disch := omega) only [go_sem, bne_self_eq_false, beq_self_eq_true, true_and, and_true, decide_true, decide_false, wrap_i64, ↓reduceIte, Nat.reduceAdd, Nat.reduceSub, Nat.reduceMul, Nat.reduceEqDiff, Nat.reduceLeDiff, Int.reduceAdd, Int.reduceSub, Int.reduceNeg, Int.reduceLT, Int.reduceLE, Int.reduceEq, Int.reduceToNat, Nat.reduceMod]
  refine ACalls.det (valid_calls Γ _ _) ?_
  simp (disch := omega) only [go_sem, bne_self_eq_false, beq_self_eq_true, true_and, and_true, decide_true, decide_false, wrap_i64, ↓reduceIte, Nat.reduceAdd, Nat.reduceSub, Nat.reduceMul, Nat.reduceEqDiff, Nat.reduceLeDiff, Int.reduceAdd, Int.reduceSub, Int.reduceNeg, Int.reduceLT, Int.reduceLE, Int.reduceEq, Int.reduceToNat, Nat.reduceMod]
  rw [← packet_valid]
  refine aBr.intro (fun h1 => ?_) (fun h1 => ?_) <;> simp (disch := omega) only [go_sem, bne_self_eq_false, beq_self_eq_true, true_and, and_true, decide_true, decide_false, wrap_i64, ↓reduceIte, Nat.reduceAdd, Nat.reduceSub, Nat.reduceMul, Nat.reduceEqDiff, Nat.reduceLeDiff, Int.reduceAdd, Int.reduceSub, Int.reduceNeg, Int.reduceLT, Int.reduceLE, Int.reduceEq, Int.reduceToNat, Nat.reduceMod]
  · simp [h1]
  · simp only [h1]; rfl
theorem new_calls (Γ : Nat → Option (List AV)) (h : AH) : ACalls Try.prog Γ 16 [] h fun v h' => h' = h ∧ v = encN ⟨[], []⟩ := by
  refine ACalls.dropL ?_
  refine acalls_code (rs := [.cell 0 25]) Try.func16 rfl rfl rfl rfl Ty.mixed (by kernel_rfl) ?_
  simp (disch := omega) only [go_sem, bne_self_eq_false, beq_self_eq_true, true_and, and_true, decide_true, decide_false, wrap_i64, ↓reduceIte, Nat.reduceAdd, Nat.reduceSub, Nat.reduceMul, Nat.reduceEqDiff, Nat.reduceLeDiff, Int.reduceAdd, Int.reduceSub, Int.reduceNeg, Int.reduceLT, Int.reduceLE, Int.reduceEq, Int.reduceToNat, Nat.reduceMod]
  rfl
theorem refnew_calls (Γ : Nat → Option (List AV)) (h : AH) : ACalls Try.prog Γ 17 [] h fun v h' => h' = h ∧ v = encN ⟨[], []⟩ := by
  refine ACalls.dropL ?_
  refine acalls_code (rs := [.cell 0 25]) Try.func17 rfl rfl rfl rfl Ty.mixed (by kernel_rfl) ?_
  simp (disch := omega) only [go_sem, bne_self_eq_false, beq_self_eq_true, true_and, and_true, decide_true, decide_false, wrap_i64, ↓reduceIte, Nat.reduceAdd, Nat.reduceSub, Nat.reduceMul, Nat.reduceEqDiff, Nat.reduceLeDiff, Int.reduceAdd, Int.reduceSub, Int.reduceNeg, Int.reduceLT, Int.reduceLE, Int.reduceEq, Int.reduceToNat, Nat.reduceMod]
  rfl
theorem few_calls (Γ : Nat → Option (List AV)) (n : Nt) (h : AH) : ACalls Try.prog Γ 10 [encN n] h fun v h' => h' = h ∧ v = .bool (decide ((n.q.length : Int) ≤ 40) && decide ((n.a.length : Int) ≤ 40)) := by
  refine ACalls.drop ?_
  refine acalls_code (rs := [.tmp 2]) Try.func10 rfl rfl rfl rfl Ty.mixed (by kernel_rfl) ?_
  simp (disch := omega) only [go_sem, bne_self_eq_false, beq_self_eq_true, true_and, and_true, decide_true, decide_false, wrap_i64, ↓reduceIte, Nat.reduceAdd, Nat.reduceSub, Nat.reduceMul, Nat.reduceEqDiff, Nat.reduceLeDiff, Int.reduceAdd, Int.reduceSub, Int.reduceNeg, Int.reduceLT, Int.reduceLE, Int.reduceEq, Int.reduceToNat, Nat.reduceMod, encN]
  refine aIf.intro (fun h1 => ?_) (fun h1 => ?_) <;> simp (disch := omega) only [go_sem, bne_self_eq_false, beq_self_eq_true, true_and, and_true, decide_true, decide_false, wrap_i64, ↓reduceIte, Nat.reduceAdd, Nat.reduceSub, Nat.reduceMul, Nat.reduceEqDiff, Nat.reduceLeDiff, Int.reduceAdd, Int.reduceSub, Int.reduceNeg, Int.reduceLT, Int.reduceLE, Int.reduceEq, Int.reduceToNat, Nat.reduceMod] <;> simp [h1]
theorem toList_ba (l : List UInt8) : (ByteArray.mk l.toArray).toList = l := by
  rw [ByteArray.toList_eq]
theorem samepacket_calls (Γ : Nat → Option (List AV)) (p q : Pk) (h : AH) : ACalls Try.prog Γ 19 [encK p, encK q] h fun v h' => h' = h ∧ v = .bool (decide (p = q)) := by
  refine ACalls.drop ?_
  have hpq : decide (p = q) = (decide (p.f = q.f) && decide (p.t = q.t) && decide (p.d = q.d)) := by
    obtain ⟨a, b, c⟩ := p
    obtain ⟨a', b', c'⟩ := q
    simp [Bool.and_assoc]
  rw [hpq]
  refine acalls_code (rs := [.tmp 4]) Try.func19 rfl rfl rfl rfl Ty.mixed (by kernel_rfl) ?_
  simp (disch := omega) only [go_sem, bne_self_eq_false, beq_self_eq_true, true_and, and_true, decide_true, decide_false, wrap_i64, ↓reduceIte, Nat.reduceAdd, Nat.reduceSub, Nat.reduceMul, Nat.reduceEqDiff, Nat.reduceLeDiff, Int.reduceAdd, Int.reduceSub, Int.reduceNeg, Int.reduceLT, Int.reduceLE, Int.reduceEq, Int.reduceToNat, Nat.reduceMod, encK]
  refine aIf.intro (fun h1 => ?_) (fun h1 => ?_) <;> simp (disch := omega) only [go_sem, bne_self_eq_false, beq_self_eq_true, true_and, and_true, decide_true, decide_false, wrap_i64, ↓reduceIte, Nat.reduceAdd, Nat.reduceSub, Nat.reduceMul, Nat.reduceEqDiff, Nat.reduceLeDiff, Int.reduceAdd, Int.reduceSub, Int.reduceNeg, Int.reduceLT, Int.reduceLE, Int.reduceEq, Int.reduceToNat, Nat.reduceMod]
  · refine aIf.intro (fun h2 => ?_) (fun h2 => ?_) <;> simp (disch := omega) only [go_sem, bne_self_eq_false, beq_self_eq_true, true_and, and_true, decide_true, decide_false, wrap_i64, ↓reduceIte, Nat.reduceAdd, Nat.reduceSub, Nat.reduceMul, Nat.reduceEqDiff, Nat.reduceLeDiff, Int.reduceAdd, Int.reduceSub, Int.reduceNeg, Int.reduceLT, Int.reduceLE, Int.reduceEq, Int.reduceToNat, Nat.reduceMod]
    · simp only [h1, h2, toList_ba, decide_true, Bool.true_and]
      congr 1
      rw [Bool.eq_iff_iff]; simp
    · simp [h1, h2]
  · simp [h1]
theorem isnan_calls (Γ : Nat → Option (List AV)) (n : Int) (h : AH) : ACalls Try.prog Γ 47 [.int .i64 n] h fun v h' => h' = h ∧ v = .bool false := by
  refine ACalls.drop ?_
  refine acalls_code (rs := [.tmp 2]) Try.func47 rfl rfl rfl rfl Ty.mixed (by kernel_rfl) ?_
  simp (disch := omega) only [go_sem, bne_self_eq_false, beq_self_eq_true, true_and, and_true, decide_true, decide_false, wrap_i64, ↓reduceIte, Nat.reduceAdd, Nat.reduceSub, Nat.reduceMul, Nat.reduceEqDiff, Nat.reduceLeDiff, Int.reduceAdd, Int.reduceSub, Int.reduceNeg, Int.reduceLT, Int.reduceLE, Int.reduceEq, Int.reduceToNat, Nat.reduceMod]
def cmpF (a b : Int) : Int := if a < b then -1 else if b < a then 1 else 0
theorem compare_calls (Γ : Nat → Option (List AV)) (a b : Int) (h : AH) : ACalls Try.prog Γ 44 [.int .i64 a, .int .i64 b] h fun v h' => h' = h ∧ v = .int .i64 (cmpF a b) := by
  refine ACalls.drop ?_
  refine acalls_code (rs := [.tmp 4]) Try.func44 rfl rfl rfl rfl Ty.mixed (by kernel_rfl) ?_
  simp (disch := omega) only [go_sem, bne_self_eq_false, beq_self_eq_true, true_and, and_true, decide_true, decide_false, wrap_i64, ↓reduceIte, Nat.reduceAdd, Nat.reduceSub, Nat.reduceMul, Nat.reduceEqDiff, Nat.reduceLeDiff, Int.reduceAdd, Int.reduceSub, Int.reduceNeg, Int.reduceLT, Int.reduceLE, Int.reduceEq, Int.reduceToNat, Nat.reduceMod]
  refine ACalls.det (isnan_calls Γ _ _) ?_
  simp (disch := omega) only [go_sem, bne_self_eq_false, beq_self_eq_true, true_and, and_true, decide_true, decide_false, wrap_i64, ↓reduceIte, Nat.reduceAdd, Nat.reduceSub, Nat.reduceMul, Nat.reduceEqDiff, Nat.reduceLeDiff, Int.reduceAdd, Int.reduceSub, Int.reduceNeg, Int.reduceLT, Int.reduceLE, Int.reduceEq, Int.reduceToNat, Nat.reduceMod]
  refine ACalls.det (isnan_calls Γ _ _) ?_
  simp (disch := omega) only [go_sem, bne_self_eq_false, beq_self_eq_true, true_and, and_true, decide_true, decide_false, wrap_i64, ↓reduceIte, Nat.reduceAdd, Nat.reduceSub, Nat.reduceMul, Nat.reduceEqDiff, Nat.reduceLeDiff, Int.reduceAdd, Int.reduceSub, Int.reduceNeg, Int.reduceLT, Int.reduceLE, Int.reduceEq, Int.reduceToNat, Nat.reduceMod]
  refine aIf.intro (fun h1 => ?_) (fun h1 => ?_) <;> simp (disch := omega) only [go_sem, bne_self_eq_false, beq_self_eq_true, true_and, and_true, decide_true, decide_false, wrap_i64, ↓reduceIte, Nat.reduceAdd, Nat.reduceSub, Nat.reduceMul, Nat.reduceEqDiff, Nat.reduceLeDiff, Int.reduceAdd, Int.reduceSub, Int.reduceNeg, Int.reduceLT, Int.reduceLE, Int.reduceEq, Int.reduceToNat, Nat.reduceMod]
  · simp [cmpF, h1]
  refine aIf.intro (fun h2 => ?_) (fun h2 => ?_) <;> simp (disch := omega) only [go_sem, bne_self_eq_false, beq_self_eq_true, true_and, and_true, decide_true, decide_false, wrap_i64, ↓reduceIte, Nat.reduceAdd, Nat.reduceSub, Nat.reduceMul, Nat.reduceEqDiff, Nat.reduceLeDiff, Int.reduceAdd, Int.reduceSub, Int.reduceNeg, Int.reduceLT, Int.reduceLE, Int.reduceEq, Int.reduceToNat, Nat.reduceMod]
  · simp [cmpF, h1, h2]
  · simp [cmpF, h1, h2]
end Go.Proofs.Ytidmpembkkkhkaa
