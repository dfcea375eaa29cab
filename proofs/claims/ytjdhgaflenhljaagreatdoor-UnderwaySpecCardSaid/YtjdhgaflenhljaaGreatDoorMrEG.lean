/- Texts joined: PerA. No conditions. -/
import Derived.Test.YtjdhgaflenhljaaGreatDoorMrEA
/- Permits, plain: holders, people, what fulfils an expression; what a checked policy is. No conditions. -/
set_option linter.unusedSimpArgs false
set_option linter.unusedVariables false
namespace Go.Proofs.YtjdhgaflenhljaaGreatDoor
open Go Go.Proofs Go.Abs

def rowH (hs : List (List Hd)) (no : Int) : List Hd := hs.getD no.toNat []
def hasP (who : List Int) (n : Int) : Bool := decide (n ∈ who)
def anyH (who : List Int) (l : List Hd) : Bool := l.any fun x => hasP who x.person
def sumH (who : List Int) : List Hd → Int
  | [] => 0
  | x :: r => (if hasP who x.person then x.weight else 0) + sumH who r
def cntT : List Bool → Int
  | [] => 0
  | b :: r => (if b then 1 else 0) + cntT r
mutual
def fulF (v : Int) (hs : List (List Hd)) (who : List Int) : Ex → Bool
  | .mk k n no _ l =>
    if k = 1 then anyH who (rowH hs no)
    else if k = 2 then decide (n ≤ sumH who (rowH hs no))
    else if k = 3 then decide (n ≤ cntT (fulFs v hs who l))
    else (fulFs v hs who l).getD (if v ≤ n then 0 else 1) false
def fulFs (v : Int) (hs : List (List Hd)) (who : List Int) : List Ex → List Bool
  | [] => []
  | x :: r => fulF v hs who x :: fulFs v hs who r
end
/-- People in order, above a number. -/
def ordF : Int → List Int → Bool
  | _, [] => true
  | lo, n :: r => decide (lo < n ∧ n < 64) && ordF n r
def peopleF (l : List Int) : Bool := ordF (-1) l
def lineF (l : List Hd) : Bool := l.all (fun x => decide (1 ≤ x.weight ∧ x.weight ≤ 64)) && peopleF (l.map Hd.person)
def holdersF (hs : List (List Hd)) (n : Int) : Bool := hs.all lineF && decide ((hs.length : Int) = n)
def permF (p : Pol) (kind value : Int) (hs : List (List Hd)) (who : List Int) : Bool × Int :=
  if checkF p ≠ 0 then (false, checkF p)
  else if kind < 0 ∨ (p.kinds.length : Int) ≤ kind ∨ value < 0 ∨ 1099511627776 < value then (false, 1)
  else if holdersF hs p.offices.length = false then (false, 210)
  else if peopleF who = false then (false, 1)
  else (((p.rules[kind.toNat]?).map fun r => fulF value hs who r.x).getD false, 0)
/-! ### A right expression -/
theorem check_ok {p : Pol} (h : checkF p = 0) : sizedF p = true ∧ namesF p = true ∧ formedF p = true ∧ resdRs p.offices 0 p.rules = true ∧ resdF p.offices p.change = true := by
  have he : errF p = 0 := by
    by_cases he : errF p = 0
    · exact he
    · rw [checkF, if_neg he] at h; exact absurd h he
  rw [checkF, if_pos he] at h
  have h4 : (resdRs p.offices 0 p.rules && resdF p.offices p.change) = true := by
    cases hb : (resdRs p.offices 0 p.rules && resdF p.offices p.change)
    · rw [hb] at h; simp at h
    · rfl
  rw [Bool.and_eq_true] at h4
  rw [errF] at he
  refine ⟨?_, ?_, ?_, h4⟩
  · cases hb : sizedF p
    · rw [hb] at he; simp at he
    · rfl
  · cases hb : namesF p
    · rw [hb] at he
      exfalso; revert he
      cases sizedF p <;> simp
    · rfl
  · cases hb : formedF p
    · rw [hb] at he
      exfalso; revert he
      cases sizedF p <;> cases namesF p <;> simp
    · rfl
theorem check_lens {p : Pol} (h : checkF p = 0) : p.rules.length = p.kinds.length ∧ p.offices.length ≤ 32 ∧ p.kinds.length ≤ 16 ∧ 0 < p.kinds.length ∧ 1 ≤ p.mode ∧ p.mode ≤ 4 := by
  obtain ⟨h1, h2, h3, h4, h5⟩ := check_ok h
  rw [sizedF, Bool.and_eq_true, decide_eq_true_eq] at h1
  rw [formedF, Bool.and_eq_true, Bool.and_eq_true, Bool.and_eq_true, decide_eq_true_eq] at h3
  omega
end Go.Proofs.YtjdhgaflenhljaaGreatDoor
