/- Texts joined: SucZj. No conditions. -/
import Derived.Test.YtaepdkjfaeepmaaMrDM
/- SuccessionSpec, SuccessionProveSpec: the walks. No conditions. -/
set_option linter.unusedSimpArgs false
set_option linter.unusedVariables false
namespace Go.Proofs.Ytaepdkjfaeepmaa
open Go Go.Proofs Go.Abs

theorem few_le {s : Es} (h : fewE s = true) : s.members.length ≤ 30 := by
  unfold fewE at h
  split at h
  · cases h
  · omega
set_option maxHeartbeats 4000000 in
set_option maxRecDepth 100000 in
theorem sucSpec_calls (Γ : Nat → Option (List AV)) (s : Es) (h : AH) (hs : EsL s) :
    ACalls Try.prog Γ 3 [encEs s] h fun v h' => h' = h ∧ v = .bool true := by
  have c0 := fun h => sane52_calls Γ h
  have c1 := fun h => rfew52_calls Γ s h hs
  have c2 := fun h => pplan_calls Γ s h hs
  have c3 := fun hm h => rplan_calls Γ s h hs hm
  have c4 := fun h => pcheck_calls Γ s h hs
  have c5 := fun h => rcheck52_calls Γ s h hs
  have c6 := fun h => rsame_calls Γ (planF s).l h (by have := (plan_len hs).1; omega)
  refine ACalls.drop ?_
  simp only [encEs, esC, encPl] at c1 c2 c3 c4 c5 ⊢
  refine acalls_of_awp (rs := [.tmp 2]) Try.func3 rfl rfl rfl rfl ?_
  refine awp_seq (aCode_ok Ty.mixed _ _ _ _ (by kernel_rfl) ?_)
  simp (disch := omega) only [go_sem, seval]
  refine awp_seq (aCode_ok Ty.mixed _ _ _ _ (by kernel_rfl) ?_)
  simp (disch := omega) only [go_sem, seval]
  refine ACalls.det (c0 _) ?_
  simp (disch := omega) only [go_sem, seval]
  refine awp_seq (aCode_ok Ty.mixed _ _ _ _ (by kernel_rfl) ?_)
  simp (disch := omega) only [go_sem, seval]
  refine ACalls.det (c1 _) ?_
  simp (disch := omega) only [go_sem, seval]
  cases hf : fewE s with
  | false => simp (disch := omega) only [go_sem, seval]
  | true =>
  have c3 := c3 (by have := few_le hf; omega)
  simp (disch := omega) only [go_sem, seval]
  refine awp_seq (aCode_ok Ty.mixed _ _ _ _ (by kernel_rfl) ?_)
  simp (disch := omega) only [go_sem, seval]
  refine ACalls.det (c2 _) ?_
  simp (disch := omega) only [go_sem, seval]
  refine awp_seq (aCode_ok Ty.mixed _ _ _ _ (by kernel_rfl) ?_)
  simp (disch := omega) only [go_sem, seval]
  refine ACalls.det (c3 _) ?_
  simp (disch := omega) only [go_sem, seval]
  refine awp_seq (aCode_ok Ty.mixed _ _ _ _ (by kernel_rfl) ?_)
  simp (disch := omega) only [go_sem, seval]
  refine aCallF.intro (fun _ => c4 _) ?_
  simp (disch := omega) only [go_sem, seval]
  refine aCallF.intro (fun _ => c5 _) ?_
  simp (disch := omega) only [go_sem, seval]
  refine aCallF.intro (fun _ => c6 _) ?_
  simp (disch := omega) only [go_sem, seval]
  refine aCode_ok Ty.mixed _ _ _ _ (by kernel_rfl) ?_
  simp (disch := omega) only [go_sem, seval]
set_option maxHeartbeats 4000000 in
set_option maxRecDepth 100000 in
theorem sucProveSpec_calls (Γ : Nat → Option (List AV)) (s : Es) (l : List Sg) (H : List Int) (h : AH) (hs : EsL s) (hH : ∀ x ∈ H, x ≤ 9223372036854775807) (hHl : H.length ≤ 9223372036854775807) (hl : l.length ≤ 9223372036854775807) :
    ACalls Try.prog Γ 4 [encEs s, .sl (l.map encSg) .free, .sl (encI H) .free] h fun v h' => h' = h ∧ v = .bool true := by
  have c0 := fun h => sane52_calls Γ h
  have c1 := fun h => rfew52_calls Γ s h hs
  have c2 := fun h => pprove_calls Γ s h hs
  have c3 := fun h => rprove_calls Γ s h hs
  have c4 := fun hl h => paccepts_calls Γ s l H h hs hl hH hHl
  have c5 := fun hm hl h => raccepts_calls Γ s l H h hs hm hl hH hHl
  have c6 := fun h => rsameInts_calls Γ (if checkE s = 0 then prf s else []) h (by have := proof_len (s := s); omega)
  refine ACalls.drop ?_
  simp only [encEs, esC] at c1 c2 c3 c4 c5 ⊢
  refine acalls_code (rs := [.tmp 6]) Try.func4 rfl rfl rfl rfl Ty.mixed (by kernel_rfl) ?_
  simp (disch := omega) only [go_sem, seval]
  refine ACalls.det (c0 _) ?_
  simp (disch := omega) only [go_sem, seval]
  refine ACalls.det (c1 _) ?_
  simp (disch := omega) only [go_sem, seval, List.length_map, encI_len]
  cases hf : fewE s with
  | false => simp (disch := omega) only [go_sem, seval]
  | true =>
  simp (disch := omega) only [go_sem, seval, List.length_map, encI_len]
  refine aIf.intro (fun h1 => ?_) (fun h1 => ?_) <;> simp (disch := omega) only [go_sem, seval, List.length_map, encI_len]
  refine aIf.intro (fun h2 => ?_) (fun h2 => ?_) <;> simp (disch := omega) only [go_sem, seval, List.length_map, encI_len]
  refine ACalls.det (c2 _) ?_
  simp (disch := omega) only [go_sem, seval]
  refine ACalls.det (c3 _) ?_
  simp (disch := omega) only [go_sem, seval]
  refine ACalls.det (c4 (by omega) _) ?_
  simp (disch := omega) only [go_sem, seval]
  refine ACalls.det (c5 (by have := few_le hf; omega) (by omega) _) ?_
  simp (disch := omega) only [go_sem, seval]
  refine ACalls.det (c6 _) ?_
  simp (disch := omega) only [go_sem, seval]
end Go.Proofs.Ytaepdkjfaeepmaa
