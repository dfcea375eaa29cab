/- Texts joined: LokS. No conditions. -/
import Derived.Test.YtlgamlamolfnlaaGreatMrAH
/- The laws LockoutSpec and LockoutSafeSpec: the code. No conditions. -/
set_option linter.unusedSimpArgs false
set_option linter.unusedVariables false
namespace Go.Proofs.YtlgamlamolfnlaaGreat
open Go Go.Proofs Go.Abs

theorem lockR_len (g : Gt) (most : Int) : (lockR g most).1.length ≤ 12 := by
  by_cases h : errL g most = 0
  · have hn := (errL_ok h).n
    have ht : topF g most ≤ (pplF g).length := Nat.min_le_right _ _
    rcases lock_cases h with ⟨w, e, _, _, hw, _⟩ | ⟨e, _⟩
    · rw [e]; simp only; omega
    · rw [e]; simp
  · rw [lockR, if_neg h]; simp
theorem great_len {g : Gt} {most : Int} (h : errL g most = 0) : (greatF g most).length ≤ 4096 := by
  have hn := (errL_ok h).n
  have h1 := choose_pow (pplF g) (topF g most)
  have h2 : 2 ^ (pplF g).length ≤ 2 ^ 12 := Nat.pow_le_pow_right (by decide) hn
  have h3 := List.length_filter_le (permF g) (chooseF (pplF g) (topF g most))
  rw [greatF]; omega
theorem sets_len {g : Gt} {most : Int} (h : errL g most = 0) {s : List Int} (hs : s ∈ setsF g) : s.length ≤ 12 := by
  have hk := errL_ok h
  have hn := hk.n
  have := ((mem_mins (ppl_lt hk.c) s).1 hs).1.length_le
  omega
theorem safeR_len (g : Gt) (most : Int) : (safeR g most).1.length ≤ 4096 ∧ ∀ s ∈ (safeR g most).1, s.length ≤ 12 := by
  by_cases h : errL g most = 0
  · rw [safeR, if_pos h]
    cases hf : safeF (setsF g) (greatF g most) with
    | none => simp
    | some l =>
      obtain ⟨h1, h2⟩ := safe_len _ _ _ hf
      have := great_len h
      exact ⟨by simp only; omega, fun s hs => sets_len h (h2 s hs)⟩
  · rw [safeR, if_neg h]; simp
set_option maxRecDepth 100000 in
theorem lockSpec_calls (Γ : Nat → Option (List AV)) (g : Gt) (most : Int) (h : AH) (hs : Sh g) :
    ACalls Tryz.prog Γ 3 [encG g, .int .i64 most] h fun v h' => h' = h ∧ v = .bool true := by
  have c1 := fun h => few26_calls Γ g h hs
  have c2 := fun h => lockout_calls Γ g most h hs
  have c3 := fun h => rlockout26_calls Γ g most h hs
  have hl := lockR_len g most
  obtain ⟨w, b, e, hE⟩ : ∃ w b e, lockR g most = (w, b, e) := ⟨_, _, _, rfl⟩
  rw [hE] at c2 c3 hl
  rw [encLk] at c2 c3
  simp only at hl
  have c4 := fun h => sameI26_calls Γ w w h (by omega)
  rw [decide_eq_true rfl] at c4
  cases g with | mk p n gl =>
  simp only [encG_mk] at c1 c2 c3 ⊢
  refine ACalls.drop ?_
  refine acalls_code (rs := [.tmp 4]) Tryz.func3 rfl rfl rfl rfl Ty.mixed (by kernel_rfl) ?_
  simp (disch := omega) only [go_sem, seval]
  refine ACalls.det (sane26_calls Γ _) ?_
  simp (disch := omega) only [go_sem, seval]
  refine ACalls.det (c1 _) ?_
  simp (disch := omega) only [go_sem, seval]
  cases few26F (.mk p n gl) with
  | false => simp (disch := omega) only [go_sem, seval]
  | true =>
  simp (disch := omega) only [go_sem, seval]
  refine ACalls.det (c2 _) ?_
  simp (disch := omega) only [go_sem, seval]
  refine ACalls.det (c3 _) ?_
  simp (disch := omega) only [go_sem, seval]
  refine ACalls.det (c4 _) ?_
  cases b <;> simp (disch := omega) only [go_sem, seval]
set_option maxRecDepth 100000 in
theorem lockSafeSpec_calls (Γ : Nat → Option (List AV)) (g : Gt) (most : Int) (others : List (List Int)) (h : AH) (hs : Sh g) (hol : others.length ≤ 9223372036854775807) (hoo : ∀ o ∈ others, o.length ≤ 9223372036854775807) :
    ACalls Tryz.prog Γ 4 [encG g, .int .i64 most, .sl (encII others) .free] h fun v h' => h' = h ∧ v = .bool true := by
  have c1 := fun h => few26_calls Γ g h hs
  have c2 := fun h => safe26_calls Γ g most h hs
  have c3 := fun h => rsafe26_calls Γ g most h hs
  have c5 := fun h => accepts_calls Γ g most others h hs hol hoo
  have c6 := fun h => raccepts26_calls Γ g most others h hs hol hoo
  have hl := safeR_len g most
  obtain ⟨w, b, e, hE⟩ : ∃ w b e, safeR g most = (w, b, e) := ⟨_, _, _, rfl⟩
  obtain ⟨b2, e2, hE2⟩ : ∃ b e, accR g most others = (b, e) := ⟨_, _, rfl⟩
  rw [hE] at c2 c3 hl
  rw [hE2, encAc] at c5 c6
  rw [encSf] at c2 c3
  simp only at hl
  have c4 := fun h => sameL26_calls Γ w w h (by omega) (fun s k => by have := hl.2 s k; omega)
  rw [decide_eq_true rfl] at c4
  cases g with | mk p n gl =>
  simp only [encG_mk] at c1 c2 c3 c5 c6 ⊢
  refine ACalls.drop ?_
  refine acalls_code (rs := [.tmp 6]) Tryz.func4 rfl rfl rfl rfl Ty.mixed (by kernel_rfl) ?_
  simp (disch := omega) only [go_sem, seval]
  refine ACalls.det (sane26_calls Γ _) ?_
  simp (disch := omega) only [go_sem, seval]
  refine ACalls.det (c1 _) ?_
  simp (disch := omega) only [go_sem, seval]
  cases few26F (.mk p n gl) with
  | false => simp (disch := omega) only [go_sem, seval]
  | true =>
  simp (disch := omega) only [go_sem, seval, encII_len]
  refine aIf.intro (fun hlen => ?_) (fun hlen => ?_) <;> simp (disch := omega) only [go_sem, seval]
  refine ACalls.det (c2 _) ?_
  simp (disch := omega) only [go_sem, seval]
  refine ACalls.det (c3 _) ?_
  simp (disch := omega) only [go_sem, seval]
  refine ACalls.det (c5 _) ?_
  simp (disch := omega) only [go_sem, seval]
  refine ACalls.det (c6 _) ?_
  simp (disch := omega) only [go_sem, seval]
  refine ACalls.det (c4 _) ?_
  cases b <;> cases b2 <;> simp (disch := omega) only [go_sem, seval]
end Go.Proofs.YtlgamlamolfnlaaGreat
