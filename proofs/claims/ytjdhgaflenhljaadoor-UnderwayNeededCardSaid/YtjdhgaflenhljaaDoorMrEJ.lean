/- Texts joined: PerI, PerJ. No conditions. -/
import Derived.Test.YtjdhgaflenhljaaDoorMrEI
/- The law's own examples. No conditions. -/
set_option linter.unusedSimpArgs false
set_option linter.unusedVariables false
namespace Go.Proofs.YtjdhgaflenhljaaDoor
open Go Go.Proofs Go.Abs

def someP (no : Int) : Ex := .mk 1 0 no (if no = 0 then [97] else [98]) []
def plainP (x : Ex) : Pol := ⟨[112], [[107]], [[97], [98]], [⟨[107], 0, 0, x⟩], someP 1, 1⟩
def mayHs : List (List Hd) := [[⟨1, 1⟩, ⟨2, 3⟩], [⟨5, 2⟩]]
def mayF (x : Ex) (value : Int) (who : List Int) : Bool := ((permF (plainP x) 0 value mayHs who).2 == 0) && (permF (plainP x) 0 value mayHs who).1
theorem sh_some {no : Int} (h : no = 0 ∨ no = 1) : ShX (someP no) := by
  rcases h with rfl | rfl <;> exact .mk (by decide) (fun x hx => by cases hx) (by decide) (by decide) (by decide)
theorem sh_plain {x : Ex} (h : ShX x) : ShP (plainP x) := by
  have hone : ∀ s ∈ ([[107], [97], [98]] : List Tx), s.length ≤ 9223372036854775807 := fun s hs => by
    simp only [List.mem_cons, List.not_mem_nil, or_false] at hs
    rcases hs with rfl | rfl | rfl <;> decide
  exact { name := by show [112].length ≤ _; decide
          kinds := by show ([[107]] : List Tx).length ≤ _; decide
          kindsT := fun s hs => hone s (by simp only [plainP, List.mem_cons, List.not_mem_nil, or_false] at hs ⊢; exact .inl hs)
          offices := by show ([[97], [98]] : List Tx).length ≤ _; decide
          officesT := fun s hs => hone s (by simp only [plainP, List.mem_cons, List.not_mem_nil, or_false] at hs ⊢; exact .inr hs)
          rules := by show (1 : Nat) ≤ _; decide
          rulesX := fun r hr => by simp only [plainP, List.mem_singleton] at hr; subst hr; exact h
          rulesK := fun r hr => by simp only [plainP, List.mem_singleton] at hr; subst hr; exact hone [107] (by simp)
          change := sh_some (.inr rfl) }
def permB (r : Bool × Int) : Bool := (r.2 == 0) && r.1
theorem mayF_eq (x : Ex) (value : Int) (who : List Int) : mayF x value who = ((permF (plainP x) 0 value mayHs who).2 == 0 && (permF (plainP x) 0 value mayHs who).1) := rfl
/-! ### What the examples say -/
def wX : Ex := .mk 2 4 0 [97] []
def bX : Ex := .mk 3 2 0 [] [someP 0, someP 1]
def uX : Ex := .mk 4 10 0 [] [someP 0, bX]
theorem sh_w : ShX wX := .mk (by decide) (fun x hx => by cases hx) (by decide) (by decide) (by decide)
theorem sh_b : ShX bX := .mk (by decide) (fun x hx => by
  simp only [List.mem_cons, List.not_mem_nil, or_false] at hx
  rcases hx with rfl | rfl
  · exact sh_some (.inl rfl)
  · exact sh_some (.inr rfl)) (by decide) (by decide) (by decide)
theorem sh_u : ShX uX := .mk (by decide) (fun x hx => by
  simp only [List.mem_cons, List.not_mem_nil, or_false] at hx
  rcases hx with rfl | rfl
  · exact sh_some (.inl rfl)
  · exact sh_b) (by decide) (by decide) (by decide)
def polE : Pol := ⟨[], [], [], [], .mk 0 0 0 [] [], 0⟩
theorem sh_E : ShP polE :=
  ⟨(by show ([] : Tx).length ≤ _; decide), (by show ([] : List Tx).length ≤ _; decide), (fun s hs => by cases hs), (by show ([] : List Tx).length ≤ _; decide), (fun s hs => by cases hs), (by show 0 ≤ _; decide), (fun r hr => by cases hr), (fun r hr => by cases hr),
    ShX.mk (by decide) (fun x hx => by cases hx) (by decide) (by decide) (by decide)⟩
theorem ex1 : permF polE 0 0 [] [] = (false, 201) := by decide +kernel
theorem ex2 : changeF polE [] [] = (false, 201) := by decide +kernel
theorem ex3 : permF (plainP (someP 0)) 1 0 [] [] = (false, 1) := by decide +kernel
theorem ex4 : permF (plainP (someP 0)) 0 0 [] [] = (false, 210) := by decide +kernel
theorem ex5 : permF (plainP (someP 0)) 0 0 [[], []] [3, 3] = (false, 1) := by decide +kernel
theorem ex6 : permF (plainP (someP 0)) 0 0 [[], []] [3] = (false, 0) := by decide +kernel
theorem ex7 : changeF (plainP (someP 0)) [[], [⟨5, 1⟩]] [5] = (true, 0) := by decide +kernel
theorem ex8 : changeF (plainP (someP 0)) [[], [⟨5, 0⟩]] [] = (false, 210) := by decide +kernel
theorem m1 : mayF (someP 0) 0 [2] = true := by decide +kernel
theorem m2 : mayF (someP 0) 0 [5] = false := by decide +kernel
theorem m3 : mayF (someP 0) 0 [] = false := by decide +kernel
theorem m4 : mayF wX 0 [2] = false := by decide +kernel
theorem m5 : mayF wX 0 [1, 2] = true := by decide +kernel
theorem m6 : mayF bX 0 [1, 2] = false := by decide +kernel
theorem m7 : mayF bX 0 [1, 5] = true := by decide +kernel
theorem m8 : mayF uX 10 [1] = true := by decide +kernel
theorem m9 : mayF uX 11 [1] = false := by decide +kernel
theorem m10 : mayF uX 11 [2, 5] = true := by decide +kernel
end Go.Proofs.YtjdhgaflenhljaaDoor

/- The law's examples, called; its right. No conditions. -/
set_option linter.unusedSimpArgs false
set_option linter.unusedVariables false
namespace Go.Proofs.YtjdhgaflenhljaaDoor
open Go Go.Proofs Go.Abs

theorem exprs_plain {x : Ex} (h : sizeX x ≤ 1000) : ∀ y ∈ exprs (plainP x), sizeX y ≤ 1000 := fun y hy => by
  have e : exprs (plainP x) = [x, someP 1] := rfl
  rw [e] at hy
  simp only [List.mem_cons, List.not_mem_nil, or_false] at hy
  rcases hy with rfl | rfl
  · exact h
  · decide
theorem loose_Pol (p : Pol) : loose (encPol p) = encPol p := by
  rw [encPol_eq]; simp [loose, looseL, loose_T, loose_Rs, loose_Xs]
def rightF (p : Pol) (kind value : Int) (hs : List (List Hd)) (who : List Int) : Bool :=
  fewF p hs && (decide (who.length ≤ 64) && (decide (checkF p = 0) && (decide (0 ≤ kind ∧ kind < p.kinds.length ∧ 0 ≤ value ∧ value ≤ 1099511627776) && (holdersF hs p.offices.length && peopleF who))))
theorem few_szs {p : Pol} {hs : List (List Hd)} (h : fewF p hs = true) : (∀ x ∈ exprs p, sizeX x ≤ 300) ∧ p.rules.length ≤ 20 ∧ hs.length ≤ 40 ∧ (∀ l ∈ hs, l.length ≤ 70) ∧ p.kinds.length ≤ 20 ∧ p.offices.length ≤ 40 := by
  simp only [fewF, fewHF, Bool.and_eq_true, decide_eq_true_eq, List.all_eq_true] at h
  obtain ⟨⟨⟨⟨h1, h2, h3⟩, h4⟩, h5⟩, h6, h7⟩ := h
  refine ⟨fun x hx => ?_, h3, h7, h6, h1, h2⟩
  rcases List.mem_append.1 hx with hx | hx
  · obtain ⟨r, hr, rfl⟩ := List.mem_map.1 hx; exact h5 r hr
  · rw [List.mem_singleton] at hx; rw [hx]; exact h4
theorem few_S {p : Pol} {hs : List (List Hd)} {who : List Int} (h : fewF p hs = true) (hw : who.length ≤ 1000) : Szs hs who :=
  ⟨by have := (few_szs h).2.2.1; omega, fun l hl => by have := (few_szs h).2.2.2.1 l hl; omega, hw⟩
/-- Lists of holders fit. -/
structure ShH (hs : List (List Hd)) : Prop where
  n : hs.length ≤ 9223372036854775807
  l : ∀ l ∈ hs, l.length ≤ 9223372036854775807
end Go.Proofs.YtjdhgaflenhljaaDoor
