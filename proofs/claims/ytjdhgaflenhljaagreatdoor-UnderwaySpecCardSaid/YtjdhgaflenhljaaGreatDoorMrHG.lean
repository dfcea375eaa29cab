/- Texts joined: UnI, UnJ. No conditions. -/
import Derived.Test.YtjdhgaflenhljaaGreatDoorMrHE
import Derived.Test.YtjdhgaflenhljaaGreatDoorMrHF
/- The law's own examples. No conditions. -/
set_option linter.unusedSimpArgs false
set_option linter.unusedVariables false
namespace Go.Proofs.YtjdhgaflenhljaaGreatDoor
open Go Go.Proofs Go.Abs

def chX : Ex := .mk 1 0 0 [99, 104, 105, 101, 102] []
def bkP (mode : Int) : Pol := ⟨[98, 97, 110, 107], [[108, 111, 97, 110]], [[99, 104, 105, 101, 102]], [⟨[108, 111, 97, 110], 0, 0, chX⟩], chX, mode⟩
def verF (no at_ mode : Int) : Vs := ⟨no, at_, 0, bkP mode⟩
theorem sh_ch : ShX chX := .mk (by decide) (fun x hx => by cases hx) (by decide) (by decide) (by decide)
theorem sm_bk (mode : Int) : SmP (bkP mode) := by
  refine ⟨?_, fun y hy => ?_, by show (1 : Nat) ≤ _; decide⟩
  · exact { name := by show [98, 97, 110, 107].length ≤ _; decide
            kinds := by show ([[108, 111, 97, 110]] : List Tx).length ≤ _; decide
            kindsT := fun s hs => by simp only [bkP, List.mem_singleton] at hs; subst hs; decide
            offices := by show ([[99, 104, 105, 101, 102]] : List Tx).length ≤ _; decide
            officesT := fun s hs => by simp only [bkP, List.mem_singleton] at hs; subst hs; decide
            rules := by show (1 : Nat) ≤ _; decide
            rulesX := fun r hr => by simp only [bkP, List.mem_singleton] at hr; subst hr; exact sh_ch
            rulesK := fun r hr => by simp only [bkP, List.mem_singleton] at hr; subst hr; decide
            change := sh_ch }
  · have e : exprs (bkP mode) = [chX, chX] := rfl
    rw [e] at hy
    simp only [List.mem_cons, List.not_mem_nil, or_false, or_self] at hy
    subst hy
    decide
set_option maxRecDepth 100000 in
theorem version_calls (Γ : Nat → Option (List AV)) (no at_ mode : Int) (h : AH) : ACalls Tryz.prog Γ 9 [.int .i64 no, .int .i64 at_, .int .i64 mode] h fun v h' => h' = h ∧ v = encV (verF no at_ mode) := by
  refine ACalls.dropL ?_
  refine acalls_code (rs := [.cell 6 39]) Tryz.func9 rfl rfl rfl rfl Ty.mixed (by kernel_rfl) ?_
  simp (disch := omega) only [go_sem, seval]
  have r3 := of_eq_true (rb_Rs h.length [⟨[108, 111, 97, 110], 0, 0, chX⟩])
  rw [List.map_cons, encRl_eq] at r3
  refine ⟨⟨of_eq_true (rb_T h.length [[108, 111, 97, 110]]), of_eq_true (rb_T h.length [[99, 104, 105, 101, 102]]), r3⟩, ?_⟩
  rw [encV_eq]
  have e : (verF no at_ mode).p.rules.map encRl = [encRl ⟨[108, 111, 97, 110], 0, 0, chX⟩] := rfl
  rw [e, encRl_eq]
  rfl
def l2V : List Vs := [verF 1 0 2, verF 2 10 4]
def l3V : List Vs := [verF 1 0 2, verF 2 10 1]
theorem vsC_small {l : List Vs} (h : l.length ≤ 2) (hp : ∀ x ∈ l, ∃ no a m, x = verF no a m) : VsC l :=
  ⟨by omega, fun _ x hx => by
    obtain ⟨no, a, m, rfl⟩ := hp x hx
    exact sm_bk m⟩
theorem v2C : VsC l2V := vsC_small (by decide) fun x hx => by
  simp only [l2V, List.mem_cons, List.not_mem_nil, or_false] at hx
  rcases hx with rfl | rfl
  · exact ⟨_, _, _, rfl⟩
  · exact ⟨_, _, _, rfl⟩
theorem v3C : VsC l3V := vsC_small (by decide) fun x hx => by
  simp only [l3V, List.mem_cons, List.not_mem_nil, or_false] at hx
  rcases hx with rfl | rfl
  · exact ⟨_, _, _, rfl⟩
  · exact ⟨_, _, _, rfl⟩
theorem v0C : VsC [] := vsC_small (by decide) fun x hx => by cases hx
theorem j2a : judgesF l2V 9 12 0 = ([1, 2], 4, 0) := by decide +kernel
theorem j2b : judgesF l2V 10 12 0 = ([2], 4, 0) := by decide +kernel
theorem j2c : judgesF l2V 3 9 0 = ([1], 2, 0) := by decide +kernel
theorem j3a : judgesF l3V 9 12 0 = ([1], 1, 0) := by decide +kernel
theorem j0a : judgesF [] 0 0 0 = ([], 0, 0) := by decide +kernel
theorem j0b : judgesF [] 1 0 0 = ([], 0, 1) := by decide +kernel
theorem n3a : needF 3 [true, false, false] = ([1], false, 0) := by decide +kernel
theorem n4a : needF 4 [false, true, true] = ([1], true, 0) := by decide +kernel
theorem d3a : decF 3 [] = (false, 0) := by decide +kernel
theorem d5a : decF 5 [] = (false, 270) := by decide +kernel
theorem d1a : decF 1 [true] = (true, 0) := by decide +kernel
set_option maxHeartbeats 2000000 in
set_option maxRecDepth 100000 in
theorem sane27_calls (Γ : Nat → Option (List AV)) (hΓ : Γ 0 = some kindsC) (h : AH) : ACalls Tryz.prog Γ 4 [] h fun v h' => h' = h ∧ v = .bool true := by
  have cv := fun no a m h => version_calls Γ no a m h
  have c1 := fun h => judges0_calls Γ hΓ l2V 9 12 0 h v2C (fun _ => by decide)
  have c2 := fun h => judges0_calls Γ hΓ l2V 10 12 0 h v2C (fun _ => by decide)
  have c3 := fun h => judges0_calls Γ hΓ l2V 3 9 0 h v2C (fun _ => by decide)
  have c4 := fun h => judges0_calls Γ hΓ l3V 9 12 0 h v3C (fun _ => by decide)
  have c5 := fun h => judges0_calls Γ hΓ [] 0 0 0 h v0C (fun _ => by decide)
  have c6 := fun h => judges0_calls Γ hΓ [] 1 0 0 h v0C (fun _ => by decide)
  have c7 := fun h => needed_calls Γ 3 [true, false, false] h (by decide)
  have c8 := fun h => needed_calls Γ 4 [false, true, true] h (by decide)
  have c9 := fun h => decide_calls Γ 3 [] h (by decide)
  have c10 := fun h => decide_calls Γ 5 [] h (by decide)
  have c11 := fun h => decide_calls Γ 1 [true] h (by decide)
  have s1 := fun h => sameInts_calls Γ [1, 2] [1, 2] h (by decide) (by decide)
  have s2 := fun h => sameInts_calls Γ [2] [2] h (by decide) (by decide)
  have s3 := fun h => sameInts_calls Γ [1] [1] h (by decide) (by decide)
  simp only [decide_true] at s1 s2 s3
  rw [j2a] at c1
  rw [j2b] at c2
  rw [j2c] at c3
  rw [j3a] at c4
  rw [j0a] at c5
  rw [j0b] at c6
  rw [n3a] at c7
  rw [n4a] at c8
  rw [d3a] at c9
  rw [d5a] at c10
  rw [d1a] at c11
  simp only [encV_eq] at cv
  have lv : ∀ (l : List Vs) (o : Abs.Own) (r : List AV), looseL (AV.sl (l.map encV) o :: r) = looseL (.sl (l.map encV) .free :: r) := fun l o r => by simp [looseL, loose]
  have lb : ∀ (l : List Bool) (o : Abs.Own) (r : List AV), looseL (r ++ [AV.sl (encBl l) o]) = looseL (r ++ [.sl (encBl l) .free]) := fun l o r => by simp [looseL_map, loose]
  have li : ∀ (l : List Int) (o : Abs.Own) (r : List AV), looseL (r ++ [AV.sl (encI l) o]) = looseL (r ++ [.sl (encI l) .free]) := fun l o r => by simp [looseL_map, loose]
  refine ACalls.drop ?_
  refine acalls_code (rs := [.tmp 0]) Tryz.func4 rfl rfl rfl rfl Ty.mixed (by kernel_rfl) ?_
  simp (disch := omega) only [go_sem, seval]
  refine ACalls.det (cv _ _ _ _) ?_
  simp (disch := omega) only [go_sem, seval]
  refine ACalls.det (cv _ _ _ _) ?_
  simp (disch := omega) only [go_sem, seval]
  refine ACalls.ofLoose (ACalls.det (c1 _) ?_) (by simp only [← encV_eq]; exact lv l2V _ _)
  simp (disch := omega) only [go_sem, seval]
  refine ACalls.ofLoose (ACalls.det (c2 _) ?_) (by simp only [← encV_eq]; exact lv l2V _ _)
  simp (disch := omega) only [go_sem, seval]
  refine ACalls.ofLoose (ACalls.det (c3 _) ?_) (by simp only [← encV_eq]; exact lv l2V _ _)
  simp (disch := omega) only [go_sem, seval]
  refine aCallF.intro (fun _ => cv _ _ _ _) ?_
  simp (disch := omega) only [go_sem, seval]
  refine aCallF.intro (fun _ => ACalls.ofLoose (c4 _) (by simp only [← encV_eq]; exact lv l3V _ _)) ?_
  simp (disch := omega) only [go_sem, seval]
  refine ACalls.ofLoose (ACalls.det (c5 _) ?_) (lv [] _ _)
  simp (disch := omega) only [go_sem, seval]
  refine ACalls.ofLoose (ACalls.det (c6 _) ?_) (lv [] _ _)
  simp (disch := omega) only [go_sem, seval]
  refine ACalls.ofLoose (ACalls.det (c7 _) ?_) (lb [true, false, false] _ [_])
  simp (disch := omega) only [go_sem, seval]
  refine ACalls.ofLoose (ACalls.det (c8 _) ?_) (lb [false, true, true] _ [_])
  simp (disch := omega) only [go_sem, seval]
  refine ACalls.ofLoose (ACalls.det (c9 _) ?_) (lb [] _ [_])
  simp (disch := omega) only [go_sem, seval]
  refine ACalls.ofLoose (ACalls.det (c10 _) ?_) (lb [] _ [_])
  simp (disch := omega) only [go_sem, seval]
  refine ACalls.ofLoose (ACalls.det (c11 _) ?_) (lb [true] _ [_])
  simp (disch := omega) only [go_sem, seval]
  refine ACalls.ofLoose (ACalls.det (s1 _) ?_) (li [1, 2] _ [_])
  simp (disch := omega) only [go_sem, seval]
  refine ACalls.ofLoose (ACalls.det (s2 _) ?_) (li [2] _ [_])
  simp (disch := omega) only [go_sem, seval]
  refine ACalls.ofLoose (ACalls.det (s3 _) ?_) (li [1] _ [_])
  simp (disch := omega) only [go_sem, seval]
  refine ACalls.ofLoose (ACalls.det (s3 _) ?_) (li [1] _ [_])
  simp (disch := omega) only [go_sem, seval]
  refine aIf.pos rfl ?_
  simp (disch := omega) only [go_sem, seval]
  refine ACalls.ofLoose (ACalls.det (s3 _) ?_) (li [1] _ [_])
  simp (disch := omega) only [go_sem, seval]
  refine ACalls.ofLoose (ACalls.det (s3 _) ?_) (li [1] _ [_])
  simp (disch := omega) only [go_sem, seval]
end Go.Proofs.YtjdhgaflenhljaaGreatDoor

/- The laws of what is needed and who judges: DecideSpec, Later. No conditions. -/
set_option linter.unusedSimpArgs false
set_option linter.unusedVariables false
namespace Go.Proofs.YtjdhgaflenhljaaGreatDoor
open Go Go.Proofs Go.Abs

/-! ### Versions that do not matter -/
theorem takeWhile_filter {at_ : Int} : ∀ {l : List Int}, l.Pairwise (· ≤ ·) → l.takeWhile (fun k => decide (k ≤ at_)) = l.filter fun k => decide (k ≤ at_)
  | [], _ => rfl
  | x :: r, h => by
    obtain ⟨h1, h2⟩ := List.pairwise_cons.1 h
    by_cases hx : x ≤ at_
    · rw [List.takeWhile_cons_of_pos (by simpa using hx), List.filter_cons_of_pos (by simpa using hx), takeWhile_filter h2]
    · rw [List.takeWhile_cons_of_neg (by simpa using hx), List.filter_cons_of_neg (by simpa using hx)]
      symm
      rw [List.filter_eq_nil_iff]
      intro y hy
      have := h1 y hy
      simp; omega
theorem keysF_eq (l : List Vs) (begun at_ kn : Int) : keysF l begun at_ kn = So.sortI ((inF begun kn l).ks.filter fun k => decide (k ≤ at_)) := by
  rw [keysF, takeWhile_filter (So.sortI_le _)]
  refine So.sortI_of ((So.sortI_le _).sublist List.filter_sublist) ?_
  exact (So.sortI_perm _).filter _
/-- Versions that the law's guard lets through. -/
structure FwV (l : List Vs) : Prop where
  n : l.length ≤ 9223372036854775807
  sh : ∀ x ∈ l, ShP x.p
theorem few_vsC {l : List Vs} (F : FwV l) (h : fewVF l = true) : VsC l ∧ (chkAll l = 0 → l.length ≤ 12) := by
  rw [fewVF, Bool.and_eq_true, decide_eq_true_eq] at h
  refine ⟨⟨F.n, fun hl x hx => ?_⟩, fun h0 => ?_⟩
  · have hl6 : l.length ≤ 6 := by omega
    have hx2 : x ∈ l.take 10 := by rw [List.take_of_length_le (by omega)]; exact hx
    have hf := List.all_eq_true.1 h.2 x hx2
    rw [few20] at hf
    simp only [Bool.and_eq_true, decide_eq_true_eq, List.all_eq_true] at hf
    have fe : ∀ y, fewE y = true → sizeX y ≤ 1000 := fun y hy => by rw [fewE, decide_eq_true_eq] at hy; omega
    refine ⟨F.sh x hx, fun y hy => ?_, by omega⟩
    rw [exprs] at hy
    rcases List.mem_append.1 hy with hy | hy
    · obtain ⟨r, hr, rfl⟩ := List.mem_map.1 hy
      exact fe _ (hf.2.2.2.2 r hr)
    · rw [List.mem_singleton] at hy; subst hy
      exact fe _ hf.2.2.2.1
  · have := (chkAll_ok h0).n
    omega
theorem FwV.filter {l : List Vs} (F : FwV l) (p : Vs → Bool) : FwV (l.filter p) := ⟨Nat.le_trans (List.length_filter_le ..) F.n, fun x hx => F.sh x (List.mem_filter.1 hx).1⟩
end Go.Proofs.YtjdhgaflenhljaaGreatDoor
