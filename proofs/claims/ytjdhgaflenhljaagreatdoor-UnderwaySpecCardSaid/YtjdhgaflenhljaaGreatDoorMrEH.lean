/- Texts joined: PerB, PerC, PerD, PerE. No conditions. -/
import Derived.Test.YtjdhgaflenhljaaGreatDoorMrEF
import Derived.Test.YtjdhgaflenhljaaGreatDoorMrEG
import Derived.Test.YtjdhgaflenhljaaGreatDoorMrAAD
/- The program's people, right, among, some, weight. No conditions. -/
set_option linter.unusedSimpArgs false
set_option linter.unusedVariables false
namespace Go.Proofs.YtjdhgaflenhljaaGreatDoor
open Go Go.Proofs Go.Abs

theorem encI_get (don r : List Int) (x : Int) : (encI (don ++ x :: r))[don.length]? = some (.int .i64 x) := by simp [encI]
end Go.Proofs.YtjdhgaflenhljaaGreatDoor

/- The program's among, some, weight. No conditions. -/
set_option linter.unusedSimpArgs false
set_option linter.unusedVariables false
namespace Go.Proofs.YtjdhgaflenhljaaGreatDoor
open Go Go.Proofs Go.Abs

set_option maxRecDepth 100000 in
theorem isnan_calls (Γ : Nat → Option (List AV)) (x : Int) (h : AH) : ACalls Tryz.prog Γ 74 [.int .i64 x] h fun v h' => h' = h ∧ v = .bool false := by
  refine ACalls.drop ?_
  refine acalls_code (rs := [.tmp 2]) Tryz.func74 rfl rfl rfl rfl Ty.mixed (by kernel_rfl) ?_
  simp (disch := omega) only [go_sem, seval]
theorem less_calls (Γ : Nat → Option (List AV)) (x y : Int) (h : AH) : ACalls Tryz.prog Γ 52 [.int .i64 x, .int .i64 y] h fun v h' => h' = h ∧ v = .bool (decide (x < y)) := by
  refine ACalls.drop ?_
  refine acalls_code (rs := [.tmp 4]) Tryz.func52 rfl rfl rfl rfl Ty.mixed (by kernel_rfl) ?_
  simp (disch := omega) only [go_sem, seval]
  refine ACalls.det (isnan_calls Γ x _) ?_
  simp (disch := omega) only [go_sem, seval]
end Go.Proofs.YtjdhgaflenhljaaGreatDoor

/- The program's of, upto, fulfil. No conditions. -/
set_option linter.unusedSimpArgs false
set_option linter.unusedVariables false
namespace Go.Proofs.YtjdhgaflenhljaaGreatDoor
open Go Go.Proofs Go.Abs

/-- Holders and people whose numbers are right. -/
structure HdOK (hs : List (List Hd)) (who : List Int) : Prop where
  len : ∀ l ∈ hs, l.length ≤ 1000
  wt : ∀ l ∈ hs, ∀ y ∈ l, 1 ≤ y.weight ∧ y.weight ≤ 64
  pw : who.Pairwise (· < ·)
  wl : who.length ≤ 1000
end Go.Proofs.YtjdhgaflenhljaaGreatDoor

/- The program's Permits, Changes. No conditions. -/
set_option linter.unusedSimpArgs false
set_option linter.unusedVariables false
namespace Go.Proofs.YtjdhgaflenhljaaGreatDoor
open Go Go.Proofs Go.Abs

/-- The numbers of holders and people are small enough. -/
structure Szs (hs : List (List Hd)) (who : List Int) : Prop where
  n : hs.length ≤ 1000
  l : ∀ l ∈ hs, l.length ≤ 1000
  w : who.length ≤ 1000
end Go.Proofs.YtjdhgaflenhljaaGreatDoor
