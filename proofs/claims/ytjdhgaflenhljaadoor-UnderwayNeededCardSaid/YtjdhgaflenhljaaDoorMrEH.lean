/- Texts joined: PerB, PerC, PerD, PerE. No conditions. -/
import Derived.Test.YtjdhgaflenhljaaDoorMrEF
import Derived.Test.YtjdhgaflenhljaaDoorMrEG
import Derived.Test.YtjdhgaflenhljaaDoorMrAAD
/- The program's people, right, among, some, weight. No conditions. -/
set_option linter.unusedSimpArgs false
set_option linter.unusedVariables false
namespace Go.Proofs.YtjdhgaflenhljaaDoor
open Go Go.Proofs Go.Abs

theorem encI_get (don r : List Int) (x : Int) : (encI (don ++ x :: r))[don.length]? = some (.int .i64 x) := by simp [encI]
theorem ordF_last {lo : Int} {a : List Int} (h : ordF lo a = true) (hlo : lo ≤ 63) : lo ≤ a.getLast?.getD lo ∧ a.getLast?.getD lo ≤ 63 := by
  cases e : a.getLast? with
  | none => exact ⟨Int.le_refl _, hlo⟩
  | some n =>
    have := ordF_lt h n (List.mem_of_getLast? e)
    simp only [Option.getD_some]; omega
def encW (l : List Hd) : List AV := encI (l.map Hd.person)
end Go.Proofs.YtjdhgaflenhljaaDoor

/- The program's among, some, weight. No conditions. -/
set_option linter.unusedSimpArgs false
set_option linter.unusedVariables false
namespace Go.Proofs.YtjdhgaflenhljaaDoor
open Go Go.Proofs Go.Abs

theorem fdiv_pow (m k : Nat) : ((m : Int).fdiv (2 ^ k)) = ((m / 2 ^ k : Nat) : Int) := by
  rw [Int.fdiv_eq_ediv_of_nonneg _ (Int.le_of_lt (Int.pow_pos (by decide)))]
  simp
set_option maxRecDepth 100000 in
theorem isnan_calls (Γ : Nat → Option (List AV)) (x : Int) (h : AH) : ACalls Tryd.prog Γ 76 [.int .i64 x] h fun v h' => h' = h ∧ v = .bool false := by
  refine ACalls.drop ?_
  refine acalls_code (rs := [.tmp 2]) Tryd.func76 rfl rfl rfl rfl Ty.mixed (by kernel_rfl) ?_
  simp (disch := omega) only [go_sem, seval]
theorem less_calls (Γ : Nat → Option (List AV)) (x y : Int) (h : AH) : ACalls Tryd.prog Γ 56 [.int .i64 x, .int .i64 y] h fun v h' => h' = h ∧ v = .bool (decide (x < y)) := by
  refine ACalls.drop ?_
  refine acalls_code (rs := [.tmp 4]) Tryd.func56 rfl rfl rfl rfl Ty.mixed (by kernel_rfl) ?_
  simp (disch := omega) only [go_sem, seval]
  refine ACalls.det (isnan_calls Γ x _) ?_
  simp (disch := omega) only [go_sem, seval]
theorem pw_get {P : List Int} (hP : P.Pairwise (· < ·)) {a b : Nat} {u v : Int} (ha : P[a]? = some u) (hb : P[b]? = some v) (h : a < b) : u < v := by
  obtain ⟨ha1, rfl⟩ := List.getElem?_eq_some_iff.1 ha
  obtain ⟨hb1, rfl⟩ := List.getElem?_eq_some_iff.1 hb
  exact List.pairwise_iff_getElem.1 hP a b ha1 hb1 h
/-- What is looked at, person by person. -/
def chkF (P : List Int) : Int → List Int → Bool
  | _, [] => true
  | last, p :: r => decide (p ∈ P) && decide (last < p) && chkF P p r
/-- A question: a value, holders, people. -/
def qC (v : Int) (hs : List (List Hd)) (who : List Int) : List AV := [.int .i64 v, .sl (encHl hs) .free, .sl (encI who) .free]
def encQ (v : Int) (hs : List (List Hd)) (who : List Int) : AV := .agg (qC v hs who)
def amongL (hs : List (List Hd)) (who : List Int) (no : Int) : List Hd := (rowH hs no).filter fun x => hasP who x.person
/-- The sum of weights. -/
def wSum (l : List Hd) : Int := (l.map Hd.weight).sum
theorem wSum_app (a : List Hd) (x : Hd) : wSum (a ++ [x]) = wSum a + x.weight := by simp [wSum]
theorem wSum_bd (l : List Hd) (hw : ∀ x ∈ l, 1 ≤ x.weight ∧ x.weight ≤ 64) : 0 ≤ wSum l ∧ wSum l ≤ 64 * l.length := by
  induction l with
  | nil => simp [wSum]
  | cons x r ih =>
    have h1 := ih fun y hy => hw y (by simp [hy])
    have h2 := hw x (by simp)
    have : wSum (x :: r) = x.weight + wSum r := by simp [wSum]
    rw [this, List.length_cons]; omega
theorem wSum_among (hs : List (List Hd)) (who : List Int) (no : Int) : wSum (amongL hs who no) = sumH who (rowH hs no) := by
  rw [amongL]
  induction rowH hs no with
  | nil => rfl
  | cons x r ih =>
    rw [sumH, ← ih]
    cases hp : hasP who x.person <;> simp [List.filter_cons, hp, wSum]
end Go.Proofs.YtjdhgaflenhljaaDoor

/- The program's of, upto, fulfil. No conditions. -/
set_option linter.unusedSimpArgs false
set_option linter.unusedVariables false
namespace Go.Proofs.YtjdhgaflenhljaaDoor
open Go Go.Proofs Go.Abs

/-- Holders and people whose numbers are right. -/
structure HdOK (hs : List (List Hd)) (who : List Int) : Prop where
  len : ∀ l ∈ hs, l.length ≤ 1000
  wt : ∀ l ∈ hs, ∀ y ∈ l, 1 ≤ y.weight ∧ y.weight ≤ 64
  pw : who.Pairwise (· < ·)
  wl : who.length ≤ 1000
theorem rowH_mem {hs : List (List Hd)} {no : Int} (h : 0 ≤ no ∧ no < hs.length) : rowH hs no ∈ hs := by
  have : no.toNat < hs.length := by omega
  rw [rowH, List.getD_eq_getElem?_getD, List.getElem?_eq_getElem this]
  exact List.getElem_mem this
end Go.Proofs.YtjdhgaflenhljaaDoor

/- The program's Permits, Changes. No conditions. -/
set_option linter.unusedSimpArgs false
set_option linter.unusedVariables false
namespace Go.Proofs.YtjdhgaflenhljaaDoor
open Go Go.Proofs Go.Abs

theorem line_facts {l : List Hd} (h : lineF l = true) : (∀ y ∈ l, 1 ≤ y.weight ∧ y.weight ≤ 64) ∧ (l.map Hd.person).Pairwise (· < ·) ∧ (∀ y ∈ l, 0 ≤ y.person ∧ y.person < 64) ∧ l.length ≤ 64 := by
  rw [lineF, Bool.and_eq_true, List.all_eq_true] at h
  have h2 := (peopleF_iff _).1 h.2
  have h3 := people_len h.2
  rw [List.length_map] at h3
  exact ⟨fun y hy => by simpa using h.1 y hy, h2.1, fun y hy => h2.2 _ (List.mem_map.2 ⟨y, hy, rfl⟩), h3⟩
theorem hd_ok {hs : List (List Hd)} {n : Int} {who : List Int} (h1 : holdersF hs n = true) (h2 : peopleF who = true) : HdOK hs who ∧ (hs.length : Int) = n := by
  rw [holdersF, Bool.and_eq_true, List.all_eq_true, decide_eq_true_eq] at h1
  exact ⟨⟨fun l hl => by have := (line_facts (h1.1 l hl)).2.2.2; omega, fun l hl => (line_facts (h1.1 l hl)).1, ((peopleF_iff _).1 h2).1, by have := people_len h2; omega⟩, h1.2⟩
/-- The numbers of holders and people are small enough. -/
structure Szs (hs : List (List Hd)) (who : List Int) : Prop where
  n : hs.length ≤ 1000
  l : ∀ l ∈ hs, l.length ≤ 1000
  w : who.length ≤ 1000
def encB2 (x : Bool × Int) : AV := .tuple [.bool x.1, .int .i64 x.2]
end Go.Proofs.YtjdhgaflenhljaaDoor
