/- Texts joined: SucZk. No conditions. -/
import Derived.Test.YtaepdkjfaeepmaaMrDM
/- SuccessionCheapest, SuccessionProof: the walks. No conditions. -/
set_option linter.unusedSimpArgs false
set_option linter.unusedVariables false
namespace Go.Proofs.Ytaepdkjfaeepmaa
open Go Go.Proofs Go.Abs

theorem rightL_iff {s : Es} : rightL s = true ↔ s.heirs.length ≤ 6 ∧ s.never.length ≤ 16 ∧ s.members.length ≤ 6 ∧ s.alive.length ≤ 6 ∧ checkE s = 0 := by
  simp [rightL, and_assoc]
theorem walkR_cases {s : Es} (hs : EsR s) (m : Nat) (l : List Sg) : (walkF s m l = none ∧ walkR s m l = -1) ∨ ∃ c, walkF s m l = some c ∧ walkR s m l = c ∧ 0 ≤ c ∧ Wk (grOf s) m c l.length := by
  cases e : walkF s m l with
  | none => exact .inl ⟨rfl, by rw [walkR, e]; rfl⟩
  | some c =>
    have := walk_way hs l m c e fun _ _ => .inr trivial
    exact .inr ⟨c, rfl, by rw [walkR, e]; rfl, this.pos (grOf_good hs), this⟩
theorem plan_cases {s : Es} (h : checkE s = 0) (hR : EsR s) :
    (planF s = ⟨[], 0, false, 0⟩ ∧ ∀ l, walkR s (numN s.heirs s.members) l = -1) ∨
    ((planF s).ok = true ∧ (planF s).e = 0 ∧ 0 ≤ (planF s).c ∧ walkR s (numN s.heirs s.members) (planF s).l = (planF s).c ∧ ∀ l, walkR s (numN s.heirs s.members) l = -1 ∨ (planF s).c < walkR s (numN s.heirs s.members) l ∨ (planF s).c = walkR s (numN s.heirs s.members) l ∧ (planF s).l.length ≤ l.length) := by
  have hm := check_num h
  have hp : planF s = if (tabF (tabE s) (numN s.heirs s.members)).1 < 0 then ⟨[], 0, false, 0⟩ else ⟨pathF s (tabF (tabE s) (numN s.heirs s.members)).2 (numN s.heirs s.members), (tabF (tabE s) (numN s.heirs s.members)).1, true, 0⟩ := by unfold planF; rw [if_neg (fun e => e h)]
  have hr := tabE_right hR hm
  by_cases h1 : (tabF (tabE s) (numN s.heirs s.members)).1 < 0
  · rw [if_pos h1] at hp
    refine .inl ⟨hp, fun l => ?_⟩
    rcases walkR_cases hR (numN s.heirs s.members) l with ⟨_, e⟩ | ⟨c, _, e, h0, hw⟩
    · exact e
    · rcases hr with ⟨h2, _⟩ | ⟨_, h2⟩
      · omega
      · exact absurd hw (h2 _ _)
  · rw [if_neg h1] at hp
    rw [hp]
    refine .inr ⟨rfl, rfl, by simp only; omega, by simp only; rw [walkR, path_walk hR _ _ hm (by omega) rfl]; rfl, fun l => ?_⟩
    simp only
    rcases walkR_cases hR (numN s.heirs s.members) l with ⟨_, e⟩ | ⟨c, _, e, h0, hw⟩
    · exact .inl e
    · rcases hr with ⟨_, _, h2⟩ | ⟨_, h2⟩
      · rw [e, path_len hR _ _ hm (by omega) rfl]
        exact .inr (h2 _ _ hw)
      · exact absurd hw (h2 _ _)
set_option maxHeartbeats 4000000 in
set_option maxRecDepth 100000 in
theorem sucCheapest_calls (Γ : Nat → Option (List AV)) (s : Es) (l : List Sg) (h : AH) (hs : EsL s) (hl : l.length ≤ 9223372036854775807) :
    ACalls Try.prog Γ 5 [encEs s, .sl (l.map encSg) .free] h fun v h' => h' = h ∧ v = .bool true := by
  have c0 := fun h => sane52_calls Γ h
  have c1 := fun h => right52_calls Γ s h hs
  have c2 := fun h => pplan_calls Γ s h hs
  have c3 := fun h => pprove_calls Γ s h hs
  refine ACalls.drop ?_
  simp only [encEs, esC, encPl] at c1 c2 c3 ⊢
  refine acalls_code (rs := [.tmp 4]) Try.func5 rfl rfl rfl rfl Ty.mixed (by kernel_rfl) ?_
  simp (disch := omega) only [go_sem, seval]
  refine ACalls.det (c0 _) ?_
  simp (disch := omega) only [go_sem, seval]
  refine ACalls.det (c1 _) ?_
  simp (disch := omega) only [go_sem, seval, List.length_map, encI_len]
  cases hf : rightL s with
  | false => simp (disch := omega) only [go_sem, seval]
  | true =>
  obtain ⟨r1, r2, r3, r4, r5⟩ := rightL_iff.1 hf
  have hR := check_esR hs r5
  have hm := check_num r5
  have hb := tabE_bound hR hm
  have c4 := fun h => paccepts_calls Γ s (planF s).l (prf s) h hs (by have := (plan_len hs).1; omega) (fun x hx => by
    obtain ⟨i, hi⟩ := List.getElem?_of_mem hx
    have hil := (List.getElem?_eq_some_iff.1 hi).1
    rw [prf_len] at hil
    have h1 := hv_prf hil
    have h2 := (tabE_bound hR hil).2.1
    rw [hv, List.getD_eq_getElem?_getD, hi] at h1
    simp only [Option.getD_some] at h1
    omega) (by rw [prf_len]; have := Nat.pow_le_pow_right (n := 2) (by decide) r1; omega)
  rw [acc_own hs r5] at c4
  have c5 := fun h => rnumber_calls Γ s s.members h (by omega) (by omega)
  have c6 := fun l h hl => rwalk_calls Γ s (numN s.heirs s.members) l h hR hm hl
  rw [numF_eq] at c5
  rw [r5, if_pos rfl] at c3
  have hpl := (plan_len hs).2 r5
  have hp64 := Nat.pow_le_pow_right (n := 2) (by decide) r1
  simp only [encEs, esC] at c4 c5 c6
  simp (disch := omega) only [go_sem, seval, List.length_map, encI_len]
  refine aIf.intro (fun h1 => ?_) (fun h1 => ?_) <;> simp (disch := omega) only [go_sem, seval, List.length_map, encI_len]
  refine ACalls.det (c2 _) ?_
  simp (disch := omega) only [go_sem, seval]
  refine ACalls.det (c3 _) ?_
  simp (disch := omega) only [go_sem, seval]
  refine ACalls.det (c4 _) ?_
  simp (disch := omega) only [go_sem, seval, List.length_map]
  rcases plan_cases r5 hR with ⟨k1, k2⟩ | ⟨k1, k2, k3, k4, k5⟩
  · rw [k1]
    simp (disch := omega) only [go_sem, seval, List.length_map]
    refine ACalls.det (c5 _) ?_
    simp (disch := omega) only [go_sem, seval]
    refine ACalls.det (c6 l _ (by omega)) ?_
    rw [k2]
    simp (disch := omega) only [go_sem, seval]
  · rw [k1, k2]
    simp (disch := omega) only [go_sem, seval, List.length_map]
    refine aIf.neg (by omega) ?_
    simp (disch := omega) only [go_sem, seval, List.length_map]
    refine ACalls.det (c5 _) ?_
    simp (disch := omega) only [go_sem, seval]
    refine ACalls.det (c6 (planF s).l _ (by omega)) ?_
    rw [k4]
    simp (disch := omega) only [go_sem, seval]
    refine ACalls.det (c6 l _ (by omega)) ?_
    simp (disch := omega) only [go_sem, seval, List.length_map]
    have k6 := k5 l
    refine aIf.intro (fun h2 => ?_) (fun h2 => ?_) <;> simp (disch := omega) only [go_sem, seval, k1, List.length_map]
    refine aIf.intro (fun h3 => ?_) (fun h3 => ?_) <;> simp (disch := omega) only [go_sem, seval, List.length_map]
    refine aIf.pos (by omega) ?_
    simp (disch := omega) only [go_sem, seval, List.length_map]
    rw [decide_eq_true (by omega)]
theorem acc_cases {s : Es} {l : List Sg} {H : List Int} (h : checkE s = 0) (hR : EsR s) :
    (accE s l H).2 = 0 ∧ ((accE s l H).1 = false ∨ ((accE s l H).1 = true ∧ H.length = 2 ^ s.heirs.length ∧
      ((hv H (numN s.heirs s.members) = -1 ∧ l.length = 0 ∧ ∀ l2, walkR s (numN s.heirs s.members) l2 < 0) ∨
       (hv H (numN s.heirs s.members) ≠ -1 ∧ walkR s (numN s.heirs s.members) l = hv H (numN s.heirs s.members) ∧ ∀ l2, walkR s (numN s.heirs s.members) l2 < 0 ∨ hv H (numN s.heirs s.members) ≤ walkR s (numN s.heirs s.members) l2)))) := by
  have hm := check_num h
  unfold accE
  rw [if_neg (fun e => e h)]
  split
  · exact ⟨rfl, .inl rfl⟩
  · rename_i h1
    split
    · exact ⟨rfl, .inl rfl⟩
    · rename_i h2
      have hall := allH_iff.1 (by simpa using h2)
      have low : ∀ l2, walkR s (numN s.heirs s.members) l2 < 0 ∨ (0 ≤ hv H (numN s.heirs s.members) ∧ hv H (numN s.heirs s.members) ≤ walkR s (numN s.heirs s.members) l2) := fun l2 => by
        rcases walkR_cases hR (numN s.heirs s.members) l2 with ⟨_, e⟩ | ⟨c, _, e, h0, hw⟩
        · left; omega
        · right; rw [e]; exact proof_low (grOf_good hR) hall hw hm
      split
      · rename_i h3
        refine ⟨rfl, ?_⟩
        by_cases h4 : l.length = 0
        · exact .inr ⟨by simp [h4], by simpa using h1, .inl ⟨h3, h4, fun l2 => by rcases low l2 with e | ⟨e, _⟩ <;> omega⟩⟩
        · exact .inl (by simp only; rw [decide_eq_false h4])
      · rename_i h3
        refine ⟨rfl, ?_⟩
        by_cases h4 : walkR s (numN s.heirs s.members) l = hv H (numN s.heirs s.members)
        · exact .inr ⟨by simp [h4], by simpa using h1, .inr ⟨h3, h4, fun l2 => by rcases low l2 with e | ⟨_, e⟩ <;> omega⟩⟩
        · exact .inl (by simp only; rw [decide_eq_false h4])
set_option maxHeartbeats 4000000 in
set_option maxRecDepth 100000 in
theorem sucProof_calls (Γ : Nat → Option (List AV)) (s : Es) (l : List Sg) (H : List Int) (l2 : List Sg) (h : AH) (hs : EsL s) (hl : l.length ≤ 9223372036854775807) (hl2 : l2.length ≤ 9223372036854775807) (hH : ∀ x ∈ H, x ≤ 9223372036854775807) (hHl : H.length ≤ 9223372036854775807) :
    ACalls Try.prog Γ 6 [encEs s, .sl (l.map encSg) .free, .sl (encI H) .free, .sl (l2.map encSg) .free] h fun v h' => h' = h ∧ v = .bool true := by
  have c0 := fun h => sane52_calls Γ h
  have c1 := fun h => right52_calls Γ s h hs
  have c4 := fun hl h => paccepts_calls Γ s l H h hs hl hH hHl
  refine ACalls.drop ?_
  simp only [encEs, esC, encPl] at c1 c4 ⊢
  refine acalls_of_awp (rs := [.tmp 8]) Try.func6 rfl rfl rfl rfl ?_
  refine awp_seq (aCode_ok Ty.mixed _ _ _ _ (by kernel_rfl) ?_)
  simp (disch := omega) only [go_sem, seval]
  refine awp_seq (aCode_ok Ty.mixed _ _ _ _ (by kernel_rfl) ?_)
  simp (disch := omega) only [go_sem, seval]
  refine ACalls.det (c0 _) ?_
  simp (disch := omega) only [go_sem, seval]
  refine awp_seq (aCode_ok Ty.mixed _ _ _ _ (by kernel_rfl) ?_)
  simp (disch := omega) only [go_sem, seval]
  refine ACalls.det (c1 _) ?_
  simp (disch := omega) only [go_sem, seval, List.length_map, encI_len]
  cases hf : rightL s with
  | false => simp (disch := omega) only [go_sem, seval]
  | true =>
  obtain ⟨r1, r2, r3, r4, r5⟩ := rightL_iff.1 hf
  have hR := check_esR hs r5
  have hm := check_num r5
  have c5 := fun h => rnumber_calls Γ s s.members h (by omega) (by omega)
  have c6 := fun l h hl => rwalk_calls Γ s (numN s.heirs s.members) l h hR hm hl
  have c7 := fun h => rstates_calls Γ s h (by omega)
  rw [numF_eq] at c5
  have hp64 := Nat.pow_le_pow_right (n := 2) (by decide) r1
  simp only [encEs, esC] at c5 c6 c7
  simp (disch := omega) only [go_sem, seval, List.length_map, encI_len]
  refine aIf.intro (fun h1 => ?_) (fun h1 => ?_) <;> simp (disch := omega) only [go_sem, seval, List.length_map, encI_len]
  refine aIf.intro (fun h2 => ?_) (fun h2 => ?_) <;> simp (disch := omega) only [go_sem, seval, List.length_map, encI_len]
  refine awp_seq (aCode_ok Ty.mixed _ _ _ _ (by kernel_rfl) ?_)
  simp (disch := omega) only [go_sem, seval]
  refine ACalls.det (c4 (by omega) _) ?_
  simp (disch := omega) only [go_sem, seval]
  obtain ⟨g1, g2⟩ := acc_cases (l := l) (H := H) r5 hR
  rw [g1]
  refine awp_seq (aCode_ok Ty.mixed _ _ _ _ (by kernel_rfl) ?_)
  simp (disch := omega) only [go_sem, seval]
  refine awp_seq (aCode_ok Ty.mixed _ _ _ _ (by kernel_rfl) ?_)
  simp (disch := omega) only [go_sem, seval]
  refine ACalls.det (c5 _) ?_
  simp (disch := omega) only [go_sem, seval]
  refine awp_seq (aCode_ok Ty.mixed _ _ _ _ (by kernel_rfl) ?_)
  rcases g2 with g2 | ⟨g2, g3, g4⟩
  · rw [g2]
    simp (disch := omega) only [go_sem, seval]
  rw [g2]
  simp (disch := omega) only [go_sem, seval, encI_len]
  refine ACalls.det (c7 _) ?_
  simp (disch := omega) only [go_sem, seval]
  rw [g3]
  refine aIf.pos (by simp) ?_
  simp (disch := omega) only [go_sem, seval]
  refine awp_seq (aCode_ok Ty.mixed _ _ _ _ (by kernel_rfl) ?_)
  simp (disch := omega) only [go_sem, seval]
  refine aCallF.intro (fun _ => c6 l _ (by omega)) ?_
  simp (disch := omega) only [go_sem, seval]
  refine aCallF.intro (fun _ => c6 l2 _ (by omega)) ?_
  simp (disch := omega) only [go_sem, seval]
  refine awp_seq (aCode_ok Ty.mixed _ _ _ _ (by kernel_rfl) ?_)
  have em := hv_get (H := H) (i := numN s.heirs s.members) (by omega)
  simp (disch := omega) only [go_sem, seval, em, Int.toNat_natCast]
  refine aIf.intro (fun h5 => ?_) (fun h5 => ?_) <;> simp (disch := omega) only [go_sem, seval, List.length_map]
  · rcases g4 with ⟨_, g5, g6⟩ | ⟨g5, _⟩
    · have := g6 l2
      refine aIf.pos (by omega) ?_
      simp (disch := omega) only [go_sem, seval]
      rw [decide_eq_true this]
    · exact absurd h5 g5
  · rcases g4 with ⟨g5, _⟩ | ⟨_, g5, g6⟩
    · exact absurd g5 h5
    · have := g6 l2
      refine awp_seq (aCode_ok Ty.mixed _ _ _ _ (by kernel_rfl) ?_)
      simp (disch := omega) only [go_sem, seval, em, Int.toNat_natCast]
      refine aIf.pos g5 ?_
      simp (disch := omega) only [go_sem, seval]
      refine aIf.intro (fun h6 => ?_) (fun h6 => ?_) <;> simp (disch := omega) only [go_sem, seval] <;> refine aCode_ok Ty.mixed _ _ _ _ (by kernel_rfl) ?_ <;> simp (disch := omega) only [go_sem, seval]
      rw [decide_eq_true (by omega)]
end Go.Proofs.Ytaepdkjfaeepmaa
