/- Texts joined: PerF, PerG, PerH. No conditions. -/
import Derived.Test.YtjdhgaflenhljaaDoorMrEH
/- The reference's Has, People, Holders, FewHolders. No conditions. -/
set_option linter.unusedSimpArgs false
set_option linter.unusedVariables false
namespace Go.Proofs.YtjdhgaflenhljaaDoor
open Go Go.Proofs Go.Abs

theorem concat_get {α : Type} (f : α → AV) (dn r : List α) (z y : α) (l : List α) (hl : l = dn ++ [z] ++ y :: r) : (l.map f)[((((dn ++ [z]).length : Nat) : Int) - 1).toNat]? = some (f z) := by
  have : ((((dn ++ [z]).length : Nat) : Int) - 1).toNat = dn.length := by simp
  rw [this, hl, List.append_assoc]
  simp
theorem all_wt_app {dn r : List Hd} {y : Hd} (h : dn.all (fun x => decide (1 ≤ x.weight ∧ x.weight ≤ 64)) = true) : (dn ++ y :: r).all (fun x => decide (1 ≤ x.weight ∧ x.weight ≤ 64)) = (decide (1 ≤ y.weight ∧ y.weight ≤ 64) && r.all (fun x => decide (1 ≤ x.weight ∧ x.weight ≤ 64))) := by
  rw [List.all_append, h, Bool.true_and, List.all_cons]
def lineI (dn : List Hd) : Prop := dn.all (fun x => decide (1 ≤ x.weight ∧ x.weight ≤ 64)) = true ∧ ordF (-1) (dn.map Hd.person) = true
def lastP (dn : List Hd) : Int := (dn.map Hd.person).getLast?.getD (-1)
theorem lineI_step {dn r : List Hd} {y : Hd} (h : lineI dn) : lineF (dn ++ y :: r) = ((decide (1 ≤ y.weight ∧ y.weight ≤ 64) && r.all (fun x => decide (1 ≤ x.weight ∧ x.weight ≤ 64))) && (decide (lastP dn < y.person ∧ y.person < 64) && ordF y.person (r.map Hd.person))) := by
  rw [lineF, all_wt_app h.1, peopleF, List.map_append, List.map_cons, ordF_app _ _ _ _ h.2]; rfl
theorem lineI_next {dn : List Hd} {y : Hd} (h : lineI dn) (h1 : 1 ≤ y.weight ∧ y.weight ≤ 64) (h2 : lastP dn < y.person ∧ y.person < 64) : lineI (dn ++ [y]) := by
  refine ⟨?_, ?_⟩
  · rw [List.all_append, h.1, List.all_cons, decide_eq_true h1]; rfl
  · rw [List.map_append, List.map_cons, List.map_nil, ordF_app _ _ _ _ h.2]
    show (decide (lastP dn < y.person ∧ y.person < 64) && ordF y.person []) = true
    rw [decide_eq_true h2]; rfl
def fewHF (hs : List (List Hd)) : Bool := hs.all (fun l => decide (l.length ≤ 70)) && decide (hs.length ≤ 40)
end Go.Proofs.YtjdhgaflenhljaaDoor

/- The reference's Fulfil, Permits, Changes. No conditions. -/
set_option linter.unusedSimpArgs false
set_option linter.unusedVariables false
namespace Go.Proofs.YtjdhgaflenhljaaDoor
open Go Go.Proofs Go.Abs

theorem sumH_bd (who : List Int) (l : List Hd) (hw : ∀ x ∈ l, 1 ≤ x.weight ∧ x.weight ≤ 64) : 0 ≤ sumH who l ∧ sumH who l ≤ 64 * l.length := by
  induction l with
  | nil => simp [sumH]
  | cons x r ih =>
    have h1 := ih fun y hy => hw y (by simp [hy])
    have h2 := hw x (by simp)
    rw [sumH, List.length_cons]
    split <;> omega
end Go.Proofs.YtjdhgaflenhljaaDoor

/- The reference's Permits, Changes, Few. No conditions. -/
set_option linter.unusedSimpArgs false
set_option linter.unusedVariables false
namespace Go.Proofs.YtjdhgaflenhljaaDoor
open Go Go.Proofs Go.Abs

def fewF (p : Pol) (hs : List (List Hd)) : Bool := decide (p.kinds.length ≤ 20 ∧ p.offices.length ≤ 40 ∧ p.rules.length ≤ 20) && decide (sizeX p.change ≤ 300) && p.rules.all (fun r => decide (sizeX r.x ≤ 300)) && fewHF hs
end Go.Proofs.YtjdhgaflenhljaaDoor
