/- Texts joined: PerI, PerJ. No conditions. -/
import Derived.Test.YtmdiebdplakccaaDoorMrEI
/- The law's own examples. No conditions. -/
set_option linter.unusedSimpArgs false
set_option linter.unusedVariables false
namespace Go.Proofs.YtmdiebdplakccaaDoor
open Go Go.Proofs Go.Abs

def someP (no : Int) : Ex := .mk 1 0 no (if no = 0 then [97] else [98]) []
def plainP (x : Ex) : Pol := ⟨[112], [[107]], [[97], [98]], [⟨[107], 0, 0, x⟩], someP 1, 1⟩
def mayHs : List (List Hd) := [[⟨1, 1⟩, ⟨2, 3⟩], [⟨5, 2⟩]]
def mayF (x : Ex) (value : Int) (who : List Int) : Bool := ((permF (plainP x) 0 value mayHs who).2 == 0) && (permF (plainP x) 0 value mayHs who).1
theorem sh_some {no : Int} (h : no = 0 ∨ no = 1) : ShX (someP no) := by
  rcases h with rfl | rfl <;> exact .mk (by decide) (fun x hx => by cases hx) (by decide) (by decide) (by decide)
theorem sh_plain {x : Ex} (h : ShX x) : ShP (plainP x) := by
  have hone : ∀ s ∈ ([[107], [97], [98]] : List Tx), s.length ≤ 9223372036854775807 := fun s hs => by
    simp only [List.mem_cons, List.not_mem_nil, or_false] at hs
    rcases hs with rfl | rfl | rfl <;> decide
  exact { name := by show [112].length ≤ _; decide
          kinds := by show ([[107]] : List Tx).length ≤ _; decide
          kindsT := fun s hs => hone s (by simp only [plainP, List.mem_cons, List.not_mem_nil, or_false] at hs ⊢; exact .inl hs)
          offices := by show ([[97], [98]] : List Tx).length ≤ _; decide
          officesT := fun s hs => hone s (by simp only [plainP, List.mem_cons, List.not_mem_nil, or_false] at hs ⊢; exact .inr hs)
          rules := by show (1 : Nat) ≤ _; decide
          rulesX := fun r hr => by simp only [plainP, List.mem_singleton] at hr; subst hr; exact h
          rulesK := fun r hr => by simp only [plainP, List.mem_singleton] at hr; subst hr; exact hone [107] (by simp)
          change := sh_some (.inr rfl) }
set_option maxRecDepth 100000 in
theorem some21_calls (Γ : Nat → Option (List AV)) (no : Int) (h : AH) (hn : no = 0 ∨ no = 1) : ACalls Tryd.prog Γ 21 [.int .i64 no] h fun v h' => h' = h ∧ v = encX (someP no) := by
  refine ACalls.dropL ?_
  refine acalls_code (rs := [.cell 2 26]) Tryd.func21 rfl rfl rfl rfl Ty.mixed (by kernel_rfl) ?_
  simp (disch := omega) only [go_sem, seval]
  rcases hn with rfl | rfl
  · simp (disch := omega) only [go_sem, seval]
    rfl
  · simp (disch := omega) only [go_sem, seval]
    rfl
set_option maxRecDepth 100000 in
theorem plain21_calls (Γ : Nat → Option (List AV)) (x : Ex) (h : AH) : ACalls Tryd.prog Γ 20 [encX x] h fun v h' => h' = h ∧ v = encPol (plainP x) := by
  refine ACalls.dropL ?_
  have c1 := fun h => some21_calls Γ 1 h (.inr rfl)
  rw [encX_eq] at c1 ⊢
  refine acalls_code (rs := [.cell 2 28]) Tryd.func20 rfl rfl rfl rfl Ty.mixed (by kernel_rfl) ?_
  simp (disch := omega) only [go_sem, seval]
  refine aCallF.intro (fun _ => c1 _) ?_
  simp (disch := omega) only [go_sem, seval]
  have r3 := of_eq_true (rb_Rs h.length [⟨[107], 0, 0, x⟩])
  rw [List.map_cons, encRl_eq] at r3
  refine ⟨⟨of_eq_true (rb_T h.length [[107]]), of_eq_true (rb_T h.length [[97], [98]]), r3⟩, ?_⟩
  rw [encPol_eq]
  have e : (plainP x).rules.map encRl = [encRl ⟨[107], 0, 0, x⟩] := rfl
  rw [e, encRl_eq]
  rfl
def permB (r : Bool × Int) : Bool := (r.2 == 0) && r.1
theorem mayF_eq (x : Ex) (value : Int) (who : List Int) : mayF x value who = ((permF (plainP x) 0 value mayHs who).2 == 0 && (permF (plainP x) 0 value mayHs who).1) := rfl
set_option maxRecDepth 100000 in
theorem may21_calls (Γ : Nat → Option (List AV)) (hΓ : Γ 0 = some kindsC) (x : Ex) (value : Int) (who : List Int) (h : AH) (hx : ShX x) (hsx : sizeX x ≤ 1000) (hw : who.length ≤ 1000) : ACalls Tryd.prog Γ 22 [encX x, .int .i64 value, .sl (encI who) .free] h fun v h' => h' = h ∧ v = .bool (mayF x value who) := by
  have hsz : ∀ y ∈ exprs (plainP x), sizeX y ≤ 1000 := fun y hy => by
    have e : exprs (plainP x) = [x, someP 1] := rfl
    rw [e] at hy
    simp only [List.mem_cons, List.not_mem_nil, or_false] at hy
    rcases hy with rfl | rfl
    · exact hsx
    · decide
  have S : Szs mayHs who := ⟨by decide, fun l hl => by
    simp only [mayHs, List.mem_cons, List.not_mem_nil, or_false] at hl
    rcases hl with rfl | rfl <;> decide, hw⟩
  have c1 := fun h => plain21_calls Γ x h
  have c2 := fun h => permits_calls Γ hΓ (plainP x) 0 value mayHs who h (sh_plain hx) hsz (by show (1 : Nat) ≤ _; decide) S
  rw [mayF_eq]
  generalize permF (plainP x) 0 value mayHs who = r at c2 ⊢
  obtain ⟨r1, r2⟩ := r
  rw [encX_eq] at c1 ⊢
  rw [encPol_eq] at c1 c2
  rw [encB2] at c2
  refine ACalls.drop ?_
  refine acalls_code (rs := [.tmp 6]) Tryd.func22 rfl rfl rfl rfl Ty.mixed (by kernel_rfl) ?_
  simp (disch := omega) only [go_sem, seval]
  refine ACalls.det (c1 _) ?_
  simp (disch := omega) only [go_sem, seval]
  refine ACalls.ofLoose (ACalls.det (c2 _) ?_) (by simp only [looseL, loose, loose_T, loose_Rs, loose_Xs, loose_I]; rfl)
  simp (disch := omega) only [go_sem, seval]
  refine aIf.intro (fun h1 => ?_) (fun h1 => ?_) <;> simp (disch := omega) only [go_sem, seval]
  · rw [h1]; rfl
  · rw [beq_eq_false_iff_ne.2 h1]; rfl
/-! ### What the examples say -/
def wX : Ex := .mk 2 4 0 [97] []
def bX : Ex := .mk 3 2 0 [] [someP 0, someP 1]
def uX : Ex := .mk 4 10 0 [] [someP 0, bX]
theorem sh_w : ShX wX := .mk (by decide) (fun x hx => by cases hx) (by decide) (by decide) (by decide)
theorem sh_b : ShX bX := .mk (by decide) (fun x hx => by
  simp only [List.mem_cons, List.not_mem_nil, or_false] at hx
  rcases hx with rfl | rfl
  · exact sh_some (.inl rfl)
  · exact sh_some (.inr rfl)) (by decide) (by decide) (by decide)
theorem sh_u : ShX uX := .mk (by decide) (fun x hx => by
  simp only [List.mem_cons, List.not_mem_nil, or_false] at hx
  rcases hx with rfl | rfl
  · exact sh_some (.inl rfl)
  · exact sh_b) (by decide) (by decide) (by decide)
def polE : Pol := ⟨[], [], [], [], .mk 0 0 0 [] [], 0⟩
theorem sh_E : ShP polE :=
  ⟨(by show ([] : Tx).length ≤ _; decide), (by show ([] : List Tx).length ≤ _; decide), (fun s hs => by cases hs), (by show ([] : List Tx).length ≤ _; decide), (fun s hs => by cases hs), (by show 0 ≤ _; decide), (fun r hr => by cases hr), (fun r hr => by cases hr),
    ShX.mk (by decide) (fun x hx => by cases hx) (by decide) (by decide) (by decide)⟩
theorem ex1 : permF polE 0 0 [] [] = (false, 201) := by decide +kernel
theorem ex2 : changeF polE [] [] = (false, 201) := by decide +kernel
theorem ex3 : permF (plainP (someP 0)) 1 0 [] [] = (false, 1) := by decide +kernel
theorem ex4 : permF (plainP (someP 0)) 0 0 [] [] = (false, 210) := by decide +kernel
theorem ex5 : permF (plainP (someP 0)) 0 0 [[], []] [3, 3] = (false, 1) := by decide +kernel
theorem ex6 : permF (plainP (someP 0)) 0 0 [[], []] [3] = (false, 0) := by decide +kernel
theorem ex7 : changeF (plainP (someP 0)) [[], [⟨5, 1⟩]] [5] = (true, 0) := by decide +kernel
theorem ex8 : changeF (plainP (someP 0)) [[], [⟨5, 0⟩]] [] = (false, 210) := by decide +kernel
theorem m1 : mayF (someP 0) 0 [2] = true := by decide +kernel
theorem m2 : mayF (someP 0) 0 [5] = false := by decide +kernel
theorem m3 : mayF (someP 0) 0 [] = false := by decide +kernel
theorem m4 : mayF wX 0 [2] = false := by decide +kernel
theorem m5 : mayF wX 0 [1, 2] = true := by decide +kernel
theorem m6 : mayF bX 0 [1, 2] = false := by decide +kernel
theorem m7 : mayF bX 0 [1, 5] = true := by decide +kernel
theorem m8 : mayF uX 10 [1] = true := by decide +kernel
theorem m9 : mayF uX 11 [1] = false := by decide +kernel
theorem m10 : mayF uX 11 [2, 5] = true := by decide +kernel
end Go.Proofs.YtmdiebdplakccaaDoor

/- The law's examples, called; its right. No conditions. -/
set_option linter.unusedSimpArgs false
set_option linter.unusedVariables false
namespace Go.Proofs.YtmdiebdplakccaaDoor
open Go Go.Proofs Go.Abs

theorem exprs_plain {x : Ex} (h : sizeX x ≤ 1000) : ∀ y ∈ exprs (plainP x), sizeX y ≤ 1000 := fun y hy => by
  have e : exprs (plainP x) = [x, someP 1] := rfl
  rw [e] at hy
  simp only [List.mem_cons, List.not_mem_nil, or_false] at hy
  rcases hy with rfl | rfl
  · exact h
  · decide
theorem loose_Pol (p : Pol) : loose (encPol p) = encPol p := by
  rw [encPol_eq]; simp [loose, looseL, loose_T, loose_Rs, loose_Xs]
set_option maxHeartbeats 4000000 in
set_option maxRecDepth 100000 in
theorem sane21_calls (Γ : Nat → Option (List AV)) (hΓ : Γ 0 = some kindsC) (h : AH) : ACalls Tryd.prog Γ 9 [] h fun v h' => h' = h ∧ v = .bool true := by
  have s0 := sh_some (.inl (rfl : (0 : Int) = 0))
  have hs1 : (1 : Nat) ≤ 1000000 := by decide
  have z1 := exprs_plain (x := someP 0) (by decide)
  have zE : ∀ y ∈ exprs polE, sizeX y ≤ 1000 := fun y hy => by
    have e : exprs polE = [.mk 0 0 0 [] []] := rfl
    rw [e, List.mem_singleton] at hy
    subst hy; decide
  have S1 : Szs [] [] := ⟨by decide, (fun l hl => by cases hl), by decide⟩
  have S2 : ∀ w : List Int, w.length ≤ 1000 → Szs [[], []] w := fun w hw => ⟨by decide, fun l hl => by
    simp only [List.mem_cons, List.not_mem_nil, or_false, or_self] at hl
    subst hl; decide, hw⟩
  have S3 : ∀ (n : Int) (w : List Int), w.length ≤ 1000 → Szs [[], [⟨5, n⟩]] w := fun n w hw => ⟨by simp, fun l hl => by
    simp only [List.mem_cons, List.not_mem_nil, or_false] at hl
    rcases hl with rfl | rfl <;> simp, hw⟩
  have p1 := fun h => permits_calls Γ hΓ polE 0 0 [] [] h sh_E zE (by decide) S1
  have p2 := fun h => changes_calls Γ hΓ polE [] [] h sh_E zE (by decide) S1
  have p3 := fun h => permits_calls Γ hΓ (plainP (someP 0)) 1 0 [] [] h (sh_plain s0) z1 hs1 S1
  have p4 := fun h => permits_calls Γ hΓ (plainP (someP 0)) 0 0 [] [] h (sh_plain s0) z1 hs1 S1
  have p5 := fun h => permits_calls Γ hΓ (plainP (someP 0)) 0 0 [[], []] [3, 3] h (sh_plain s0) z1 hs1 (S2 _ (by decide))
  have p6 := fun h => permits_calls Γ hΓ (plainP (someP 0)) 0 0 [[], []] [3] h (sh_plain s0) z1 hs1 (S2 _ (by decide))
  have p7 := fun h => changes_calls Γ hΓ (plainP (someP 0)) [[], [⟨5, 1⟩]] [5] h (sh_plain s0) z1 hs1 (S3 1 _ (by decide))
  have p8 := fun h => changes_calls Γ hΓ (plainP (someP 0)) [[], [⟨5, 0⟩]] [] h (sh_plain s0) z1 hs1 (S3 0 _ (by decide))
  rw [ex1] at p1
  rw [ex2] at p2
  rw [ex3] at p3
  rw [ex4] at p4
  rw [ex5] at p5
  rw [ex6] at p6
  rw [ex7] at p7
  rw [ex8] at p8
  rw [encB2] at p1 p2 p3 p4 p5 p6 p7 p8
  have c1 := fun h => some21_calls Γ 0 h (.inl rfl)
  have c2 := fun h => some21_calls Γ 1 h (.inr rfl)
  have c3 := fun h => plain21_calls Γ (someP 0) h
  have y := fun x v w h hx hsx hw => may21_calls Γ hΓ x v w h hx hsx hw
  have y1 := fun h => may21_calls Γ hΓ (someP 0) 0 [2] h s0 (by decide) (by decide)
  have y2 := fun h => may21_calls Γ hΓ (someP 0) 0 [5] h s0 (by decide) (by decide)
  have y3 := fun h => may21_calls Γ hΓ (someP 0) 0 [] h s0 (by decide) (by decide)
  have y4 := fun h => may21_calls Γ hΓ wX 0 [2] h sh_w (by decide) (by decide)
  have y5 := fun h => may21_calls Γ hΓ wX 0 [1, 2] h sh_w (by decide) (by decide)
  have y6 := fun h => may21_calls Γ hΓ bX 0 [1, 2] h sh_b (by decide) (by decide)
  have y7 := fun h => may21_calls Γ hΓ bX 0 [1, 5] h sh_b (by decide) (by decide)
  have y8 := fun h => may21_calls Γ hΓ uX 10 [1] h sh_u (by decide) (by decide)
  have y9 := fun h => may21_calls Γ hΓ uX 11 [1] h sh_u (by decide) (by decide)
  have y10 := fun h => may21_calls Γ hΓ uX 11 [2, 5] h sh_u (by decide) (by decide)
  rw [m1] at y1
  rw [m2] at y2
  rw [m3] at y3
  rw [m4] at y4
  rw [m5] at y5
  rw [m6] at y6
  rw [m7] at y7
  rw [m8] at y8
  rw [m9] at y9
  rw [m10] at y10
  refine ACalls.drop ?_
  refine acalls_of_awp (rs := [.tmp 0]) Tryd.func9 rfl rfl rfl rfl ?_
  refine awp_seq (aCode_ok Ty.mixed _ _ _ _ (by kernel_rfl) ?_)
  simp (disch := omega) only [go_sem, seval]
  refine awp_seq (aCode_ok Ty.mixed _ _ _ _ (by kernel_rfl) ?_)
  simp (disch := omega) only [go_sem, seval]
  refine ACalls.ofLoose (ACalls.det (p1 _) ?_) (by simp only [looseL, loose, loose_Pol, loose_I]; rfl)
  simp (disch := omega) only [go_sem, seval]
  refine awp_seq (aCode_ok Ty.mixed _ _ _ _ (by kernel_rfl) ?_)
  simp (disch := omega) only [go_sem, seval]
  refine ACalls.ofLoose (ACalls.det (p2 _) ?_) (by simp only [looseL, loose, loose_Pol, loose_I]; rfl)
  simp (disch := omega) only [go_sem, seval]
  refine awp_seq (aCode_ok Ty.mixed _ _ _ _ (by kernel_rfl) ?_)
  simp (disch := omega) only [go_sem, seval]
  refine ACalls.det (c1 _) ?_
  simp (disch := omega) only [go_sem, seval]
  refine ACalls.det (c3 _) ?_
  simp (disch := omega) only [go_sem, seval]
  refine ACalls.ofLoose (ACalls.det (p3 _) ?_) (by simp only [looseL, loose, loose_Pol, loose_I]; rfl)
  simp (disch := omega) only [go_sem, seval]
  refine awp_seq (aCode_ok Ty.mixed _ _ _ _ (by kernel_rfl) ?_)
  simp (disch := omega) only [go_sem, seval]
  refine ACalls.det (c1 _) ?_
  simp (disch := omega) only [go_sem, seval]
  refine ACalls.det (c3 _) ?_
  simp (disch := omega) only [go_sem, seval]
  refine ACalls.ofLoose (ACalls.det (p4 _) ?_) (by simp only [looseL, loose, loose_Pol, loose_I]; rfl)
  simp (disch := omega) only [go_sem, seval]
  refine awp_seq (aCode_ok Ty.mixed _ _ _ _ (by kernel_rfl) ?_)
  simp (disch := omega) only [go_sem, seval]
  refine ACalls.det (c1 _) ?_
  simp (disch := omega) only [go_sem, seval]
  refine ACalls.det (c3 _) ?_
  simp (disch := omega) only [go_sem, seval]
  refine ACalls.ofLoose (ACalls.det (p5 _) ?_) (by simp only [looseL, loose, loose_Pol, loose_I]; rfl)
  simp (disch := omega) only [go_sem, seval]
  refine awp_seq (aCode_ok Ty.mixed _ _ _ _ (by kernel_rfl) ?_)
  simp (disch := omega) only [go_sem, seval]
  refine ACalls.det (c1 _) ?_
  simp (disch := omega) only [go_sem, seval]
  refine ACalls.det (c3 _) ?_
  simp (disch := omega) only [go_sem, seval]
  refine ACalls.ofLoose (ACalls.det (p6 _) ?_) (by simp only [looseL, loose, loose_Pol, loose_I]; rfl)
  simp (disch := omega) only [go_sem, seval]
  refine awp_seq (aCode_ok Ty.mixed _ _ _ _ (by kernel_rfl) ?_)
  simp (disch := omega) only [go_sem, seval]
  refine ACalls.det (c1 _) ?_
  simp (disch := omega) only [go_sem, seval]
  refine ACalls.det (c3 _) ?_
  simp (disch := omega) only [go_sem, seval]
  refine ACalls.ofLoose (ACalls.det (p7 _) ?_) (by simp only [looseL, loose, loose_Pol, loose_I]; rfl)
  simp (disch := omega) only [go_sem, seval]
  refine awp_seq (aCode_ok Ty.mixed _ _ _ _ (by kernel_rfl) ?_)
  simp (disch := omega) only [go_sem, seval]
  refine ACalls.det (c1 _) ?_
  simp (disch := omega) only [go_sem, seval]
  refine ACalls.det (c3 _) ?_
  simp (disch := omega) only [go_sem, seval]
  refine ACalls.ofLoose (ACalls.det (p8 _) ?_) (by simp only [looseL, loose, loose_Pol, loose_I]; rfl)
  simp (disch := omega) only [go_sem, seval]
  refine awp_seq (aCode_ok Ty.mixed _ _ _ _ (by kernel_rfl) ?_)
  simp (disch := omega) only [go_sem, seval]
  refine awp_seq (aCode_ok Ty.mixed _ _ _ _ (by kernel_rfl) ?_)
  simp (disch := omega) only [go_sem, seval]
  refine awp_seq (aCode_ok Ty.mixed _ _ _ _ (by kernel_rfl) ?_)
  simp (disch := omega) only [go_sem, seval]
  refine ACalls.det (c1 _) ?_
  simp (disch := omega) only [go_sem, seval]
  refine ACalls.det (c2 _) ?_
  simp (disch := omega) only [go_sem, seval]
  refine awp_seq (aCode_ok Ty.mixed _ _ _ _ (by kernel_rfl) ?_)
  simp (disch := omega) only [go_sem, seval]
  refine aCallF.intro (fun _ => c1 _) ?_
  simp (disch := omega) only [go_sem, seval]
  refine awp_seq (aCode_ok Ty.mixed _ _ _ _ (by kernel_rfl) ?_)
  simp (disch := omega) only [go_sem, seval]
  refine ACalls.det (c1 _) ?_
  simp (disch := omega) only [go_sem, seval]
  refine ACalls.ofLoose (ACalls.det (y1 _) ?_) (by simp only [looseL, loose, loose_X, loose_I]; rfl)
  simp (disch := omega) only [go_sem, seval]
  refine ACalls.det (c1 _) ?_
  simp (disch := omega) only [go_sem, seval]
  refine ACalls.ofLoose (ACalls.det (y2 _) ?_) (by simp only [looseL, loose, loose_X, loose_I]; rfl)
  simp (disch := omega) only [go_sem, seval]
  refine ACalls.det (c1 _) ?_
  simp (disch := omega) only [go_sem, seval]
  refine ACalls.ofLoose (ACalls.det (y3 _) ?_) (by simp only [looseL, loose, loose_X, loose_I]; rfl)
  simp (disch := omega) only [go_sem, seval]
  refine ACalls.ofLoose (ACalls.det (y4 _) ?_) (by simp only [looseL, loose, loose_X, loose_I]; rfl)
  simp (disch := omega) only [go_sem, seval]
  refine ACalls.ofLoose (ACalls.det (y5 _) ?_) (by simp only [looseL, loose, loose_X, loose_I]; rfl)
  simp (disch := omega) only [go_sem, seval]
  refine ACalls.ofLoose (ACalls.det (y6 _) ?_) (by simp only [looseL, loose, loose_X, loose_I]; rfl)
  simp (disch := omega) only [go_sem, seval]
  refine ACalls.ofLoose (ACalls.det (y7 _) ?_) (by simp only [looseL, loose, loose_X, loose_I]; rfl)
  simp (disch := omega) only [go_sem, seval]
  refine awp_seq (aCode_ok Ty.mixed _ _ _ _ (by kernel_rfl) ?_)
  simp (disch := omega) only [go_sem, seval]
  refine ACalls.ofLoose (ACalls.det (y8 _) ?_) (by simp only [looseL, loose, loose_X, loose_I]; rfl)
  simp (disch := omega) only [go_sem, seval]
  refine ACalls.ofLoose (ACalls.det (y9 _) ?_) (by simp only [looseL, loose, loose_X, loose_I]; rfl)
  simp (disch := omega) only [go_sem, seval]
  refine ACalls.ofLoose (ACalls.det (y10 _) ?_) (by simp only [looseL, loose, loose_X, loose_I]; rfl)
  simp (disch := omega) only [go_sem, seval]
  refine aCode_ok Ty.mixed _ _ _ _ (by kernel_rfl) ?_
  simp (disch := omega) only [go_sem, seval]
def rightF (p : Pol) (kind value : Int) (hs : List (List Hd)) (who : List Int) : Bool :=
  fewF p hs && (decide (who.length ≤ 64) && (decide (checkF p = 0) && (decide (0 ≤ kind ∧ kind < p.kinds.length ∧ 0 ≤ value ∧ value ≤ 1099511627776) && (holdersF hs p.offices.length && peopleF who))))
theorem few_szs {p : Pol} {hs : List (List Hd)} (h : fewF p hs = true) : (∀ x ∈ exprs p, sizeX x ≤ 300) ∧ p.rules.length ≤ 20 ∧ hs.length ≤ 40 ∧ (∀ l ∈ hs, l.length ≤ 70) ∧ p.kinds.length ≤ 20 ∧ p.offices.length ≤ 40 := by
  simp only [fewF, fewHF, Bool.and_eq_true, decide_eq_true_eq, List.all_eq_true] at h
  obtain ⟨⟨⟨⟨h1, h2, h3⟩, h4⟩, h5⟩, h6, h7⟩ := h
  refine ⟨fun x hx => ?_, h3, h7, h6, h1, h2⟩
  rcases List.mem_append.1 hx with hx | hx
  · obtain ⟨r, hr, rfl⟩ := List.mem_map.1 hx; exact h5 r hr
  · rw [List.mem_singleton] at hx; rw [hx]; exact h4
theorem few_S {p : Pol} {hs : List (List Hd)} {who : List Int} (h : fewF p hs = true) (hw : who.length ≤ 1000) : Szs hs who :=
  ⟨by have := (few_szs h).2.2.1; omega, fun l hl => by have := (few_szs h).2.2.2.1 l hl; omega, hw⟩
/-- Lists of holders fit. -/
structure ShH (hs : List (List Hd)) : Prop where
  n : hs.length ≤ 9223372036854775807
  l : ∀ l ∈ hs, l.length ≤ 9223372036854775807
set_option maxHeartbeats 1600000 in
set_option maxRecDepth 100000 in
theorem right21_calls (Γ : Nat → Option (List AV)) (p : Pol) (kind value : Int) (hs : List (List Hd)) (who : List Int) (h : AH) (hp : ShP p) (H : ShH hs) (hw : who.length ≤ 9223372036854775807) :
    ACalls Tryd.prog Γ 15 [encPol p, .int .i64 kind, .int .i64 value, .sl (encHl hs) .free, .sl (encI who) .free] h fun v h' => h' = h ∧ v = .bool (rightF p kind value hs who) := by
  have c1 := fun h => rfew_calls Γ p hs h hp H.n H.l
  have c2 := fun h => rcheck_calls Γ p h hp
  have c3 := fun (hf : fewF p hs = true) h => rholders_calls Γ hs p.offices.length h (by have := (few_szs (p := p) hf).2.2.1; omega) (fun l hl => by have := (few_szs (p := p) hf).2.2.2.1 l hl; omega)
  have c4 := fun h => rpeople_calls Γ who h hw
  have hk := hp.kinds
  have ho := hp.offices
  have hd : rightF p kind value hs who = (fewF p hs && (decide (who.length ≤ 64) && (decide (checkF p = 0) && (decide (0 ≤ kind ∧ kind < p.kinds.length ∧ 0 ≤ value ∧ value ≤ 1099511627776) && (holdersF hs p.offices.length && peopleF who))))) := rfl
  refine ACalls.drop ?_
  rw [encPol_eq] at *
  refine acalls_code (rs := [.tmp 10]) Tryd.func15 rfl rfl rfl rfl Ty.mixed (by kernel_rfl) ?_
  simp (disch := omega) only [go_sem, seval]
  refine ACalls.det (c1 _) ?_
  cases h1 : fewF p hs <;> rw [h1] at hd <;> simp (disch := omega) only [go_sem, seval, encI_len]
  · rw [hd]; rfl
  refine aIf.intro (fun h2 => ?_) (fun h2 => ?_) <;> simp (disch := omega) only [go_sem, seval]
  rotate_left
  · rw [hd, decide_eq_false (by omega)]; rfl
  rw [decide_eq_true (by omega), Bool.true_and, Bool.true_and] at hd
  refine ACalls.det (c2 _) ?_
  simp (disch := omega) only [go_sem, seval]
  refine aIf.intro (fun h3 => ?_) (fun h3 => ?_) <;> simp (disch := omega) only [go_sem, seval]
  rotate_left
  · rw [hd, decide_eq_false h3]; rfl
  rw [decide_eq_true h3, Bool.true_and] at hd
  refine aIf.intro (fun h4 => ?_) (fun h4 => ?_) <;> simp (disch := omega) only [go_sem, seval, encT_len]
  rotate_left
  · rw [hd, decide_eq_false (by omega)]; rfl
  refine aIf.intro (fun h5 => ?_) (fun h5 => ?_) <;> simp (disch := omega) only [go_sem, seval, encT_len]
  rotate_left
  · rw [hd, decide_eq_false (by omega)]; rfl
  refine aIf.intro (fun h6 => ?_) (fun h6 => ?_) <;> simp (disch := omega) only [go_sem, seval, encT_len]
  rotate_left
  · rw [hd, decide_eq_false (by omega)]; rfl
  refine aIf.intro (fun h7 => ?_) (fun h7 => ?_) <;> simp (disch := omega) only [go_sem, seval, encT_len]
  rotate_left
  · rw [hd, decide_eq_false (by omega)]; rfl
  rw [decide_eq_true (by omega), Bool.true_and] at hd
  refine ACalls.det (c3 h1 _) ?_
  cases h8 : holdersF hs p.offices.length <;> rw [h8] at hd <;> simp (disch := omega) only [go_sem, seval]
  · rw [hd]; rfl
  refine ACalls.det (c4 _) ?_
  simp (disch := omega) only [go_sem, seval]
  rw [hd]; rfl
set_option maxHeartbeats 1600000 in
set_option maxRecDepth 100000 in
theorem permitsSpec_calls (Γ : Nat → Option (List AV)) (hΓ : Γ 0 = some kindsC) (p : Pol) (kind value : Int) (hs : List (List Hd)) (who : List Int) (h : AH) (hp : ShP p) (H : ShH hs) (hw : who.length ≤ 9223372036854775807) :
    ACalls Tryd.prog Γ 3 [encPol p, .int .i64 kind, .int .i64 value, .sl (encHl hs) .free, .sl (encI who) .free] h fun v h' => h' = h ∧ v = .bool true := by
  have c1 := fun h => rfew_calls Γ p hs h hp H.n H.l
  have c2 := fun h (hf : fewF p hs = true) (hw : who.length ≤ 1000) => permits_calls Γ hΓ p kind value hs who h hp (fun x hx => by have := (few_szs (p := p) (hs := hs) hf).1 x hx; omega) (by have := (few_szs (p := p) (hs := hs) hf).2.1; omega) (few_S hf hw)
  have c3 := fun h (hf : fewF p hs = true) (hw : who.length ≤ 1000) => rpermits_calls Γ p kind value hs who h hp (few_S hf hw)
  generalize permF p kind value hs who = r at c2 c3
  obtain ⟨r1, r2⟩ := r
  rw [encB2] at c2 c3
  refine ACalls.drop ?_
  rw [encPol_eq] at *
  refine acalls_code (rs := [.tmp 10]) Tryd.func3 rfl rfl rfl rfl Ty.mixed (by kernel_rfl) ?_
  simp (disch := omega) only [go_sem, seval]
  refine ACalls.det (sane21_calls Γ hΓ _) ?_
  simp (disch := omega) only [go_sem, seval]
  refine ACalls.det (c1 _) ?_
  cases h1 : fewF p hs <;> simp (disch := omega) only [go_sem, seval, encI_len]
  refine aIf.intro (fun h2 => ?_) (fun h2 => ?_) <;> simp (disch := omega) only [go_sem, seval]
  refine ACalls.det (c2 _ h1 (by omega)) ?_
  simp (disch := omega) only [go_sem, seval]
  refine ACalls.det (c3 _ h1 (by omega)) ?_
  simp (disch := omega) only [go_sem, seval]
set_option maxHeartbeats 1600000 in
set_option maxRecDepth 100000 in
theorem changesSpec_calls (Γ : Nat → Option (List AV)) (hΓ : Γ 0 = some kindsC) (p : Pol) (hs : List (List Hd)) (who : List Int) (h : AH) (hp : ShP p) (H : ShH hs) (hw : who.length ≤ 9223372036854775807) :
    ACalls Tryd.prog Γ 4 [encPol p, .sl (encHl hs) .free, .sl (encI who) .free] h fun v h' => h' = h ∧ v = .bool true := by
  have c1 := fun h => rfew_calls Γ p hs h hp H.n H.l
  have c2 := fun h (hf : fewF p hs = true) (hw : who.length ≤ 1000) => changes_calls Γ hΓ p hs who h hp (fun x hx => by have := (few_szs (p := p) (hs := hs) hf).1 x hx; omega) (by have := (few_szs (p := p) (hs := hs) hf).2.1; omega) (few_S hf hw)
  have c3 := fun h (hf : fewF p hs = true) (hw : who.length ≤ 1000) => rchanges_calls Γ p hs who h hp (few_S hf hw)
  generalize changeF p hs who = r at c2 c3
  obtain ⟨r1, r2⟩ := r
  rw [encB2] at c2 c3
  refine ACalls.drop ?_
  rw [encPol_eq] at *
  refine acalls_code (rs := [.tmp 6]) Tryd.func4 rfl rfl rfl rfl Ty.mixed (by kernel_rfl) ?_
  simp (disch := omega) only [go_sem, seval]
  refine ACalls.det (sane21_calls Γ hΓ _) ?_
  simp (disch := omega) only [go_sem, seval]
  refine ACalls.det (c1 _) ?_
  cases h1 : fewF p hs <;> simp (disch := omega) only [go_sem, seval, encI_len]
  refine aIf.intro (fun h2 => ?_) (fun h2 => ?_) <;> simp (disch := omega) only [go_sem, seval]
  refine ACalls.det (c2 _ h1 (by omega)) ?_
  simp (disch := omega) only [go_sem, seval]
  refine ACalls.det (c3 _ h1 (by omega)) ?_
  simp (disch := omega) only [go_sem, seval]
end Go.Proofs.YtmdiebdplakccaaDoor
