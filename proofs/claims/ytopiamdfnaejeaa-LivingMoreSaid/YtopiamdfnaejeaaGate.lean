/- Gates as trees; what the reference says of them. No conditions. -/
import Derived.Test.YtopiamdfnaejeaaTy
import Derived.Test.YtopiamdfnaejeaaAbsR
set_option linter.unusedSimpArgs false
set_option linter.unusedVariables false
namespace Go.Proofs.Ytopiamdfnaejeaa
open Go Go.Proofs Go.Abs

inductive Gt where
  | mk (p n : Int) (l : List Gt)

def Gt.p : Gt → Int | .mk p _ _ => p
def Gt.n : Gt → Int | .mk _ n _ => n
def Gt.l : Gt → List Gt | .mk _ _ l => l

mutual
def encG : Gt → AV
  | .mk p n l => .agg [.int .i64 p, .int .i64 n, .sl (encGs l) .free]
def encGs : List Gt → List AV
  | [] => []
  | x :: r => encG x :: encGs r
end
theorem encGs_map (l : List Gt) : encGs l = l.map encG := by
  induction l with
  | nil => rfl
  | cons x r ih => simp [encGs, ih]
theorem encG_mk (p n : Int) (l : List Gt) : encG (.mk p n l) = .agg [.int .i64 p, .int .i64 n, .sl (l.map encG) .free] := by simp [encG, encGs_map]
theorem encG_len (x : Gt) : (encG x).cells.length = 3 := by cases x; simp [encG, AV.cells]
theorem encG_take (x : Gt) : AV.agg (List.take 3 (encG x).cells) = encG x := by cases x; simp [encG, AV.cells]
theorem encG_good (x : Gt) : (encG x).good = true := by cases x; simp [encG, AV.good, AV.one]
theorem encG_splice (a b c : AV) (x : Gt) : splice [a, b, c] 0 (encG x).cells = (encG x).cells := by cases x; rfl
theorem encG_isAgg (x : Gt) : (encG x).isAgg = true := by cases x; rfl
attribute [go_sem] encG_isAgg encG_len encG_take encG_good encG_splice
theorem mem_sz {x : Gt} {p n : Int} {l : List Gt} (h : x ∈ l) {k : Nat} (hk : SizeOf.sizeOf (Gt.mk p n l) < k + 1) : SizeOf.sizeOf x < k := by
  have := List.sizeOf_lt_of_mem h
  simp only [Gt.mk.sizeOf_spec] at hk
  omega

/-- All numbers fit, all lists are no longer than lists may be. -/
inductive Sh : Gt → Prop
  | mk {p n : Int} {l : List Gt} (h1 : l.length ≤ 9223372036854775807) (h2 : ∀ x ∈ l, Sh x) (h3 : -9223372036854775808 ≤ p) (h4 : p ≤ 9223372036854775807) (h5 : -9223372036854775808 ≤ n) (h6 : n ≤ 9223372036854775807) : Sh (.mk p n l)
theorem Sh.len {p n : Int} {l : List Gt} (h : Sh (.mk p n l)) : l.length ≤ 9223372036854775807 := by cases h; assumption
theorem Sh.mem {p n : Int} {l : List Gt} (h : Sh (.mk p n l)) : ∀ x ∈ l, Sh x := by cases h; assumption
theorem len_mid {α : Type} {don r : List α} {x : α} {k : Nat} (h : (don ++ x :: r).length ≤ k) : don.length + 1 + r.length ≤ k := by simp at h; omega

mutual
def leaves : Gt → Int → Int
  | .mk _ _ l, lim => if l.isEmpty then 1 else leavesL l lim 0
def leavesL : List Gt → Int → Int → Int
  | [], _, n => n
  | x :: r, lim, n => if n ≤ lim then leavesL r lim (n + leaves x (lim - n)) else n
end

mutual
theorem leaves_bd : ∀ (g : Gt) (lim : Int), 0 ≤ lim → 1 ≤ leaves g lim ∧ leaves g lim ≤ lim + 1
  | .mk p n [], lim, h => by simp [leaves]; omega
  | .mk p n (x :: r), lim, h => by
    have h1 := leaves_bd x lim h
    have h2 := leavesL_bd r lim (leaves x lim) h (by omega) (by omega)
    simp only [leaves, leavesL, List.isEmpty_cons, Bool.false_eq_true, if_false, if_pos h, Int.sub_zero, Int.zero_add]
    omega
theorem leavesL_bd : ∀ (l : List Gt) (lim n : Int), 0 ≤ lim → 0 ≤ n → n ≤ lim + 1 → n ≤ leavesL l lim n ∧ leavesL l lim n ≤ lim + 1
  | [], lim, n, _, _, h => by simp [leavesL]; omega
  | x :: r, lim, n, h0, h1, h2 => by
    simp only [leavesL]
    split
    · rename_i hn
      have h3 := leaves_bd x (lim - n) (by omega)
      have h4 := leavesL_bd r lim (n + leaves x (lim - n)) h0 (by omega) (by omega)
      omega
    · omega
end

def deeperF : Nat → Gt → Bool
  | 0, _ => true
  | d + 1, g => g.l.any (deeperF d)

mutual
def rightF : Gt → Bool
  | .mk p n l => if 0 ≤ p then decide (p < 64) && decide (n = 0) && l.isEmpty else decide (p = -1) && decide (1 ≤ n) && decide (n ≤ 4096) && rightL l
def rightL : List Gt → Bool
  | [] => true
  | x :: r => rightF x && rightL r
end
theorem rightL_all (l : List Gt) : rightL l = l.all rightF := by
  induction l with
  | nil => rfl
  | cons x r ih => simp [rightL, ih]

def checkF (g : Gt) : Int := if deeperF 16 g || decide (leaves g 256 > 256) then 2 else if rightF g then 0 else 220
def smallF (g : Gt) : Bool := decide (leaves g 60 ≤ 60) && decide (checkF g = 0)
end Go.Proofs.Ytopiamdfnaejeaa
