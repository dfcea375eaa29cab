/- Texts joined: SucZh, SucZi. No conditions. -/
import Derived.Test.YtaepdkjfaeepmaaMrDL
/- The law's own examples: two, planned, sane. No conditions. -/
set_option linter.unusedSimpArgs false
set_option linter.unusedVariables false
namespace Go.Proofs.Ytaepdkjfaeepmaa
open Go Go.Proofs Go.Abs

def twoE (al : List Int) : Es := ⟨[⟨1, 5, 7⟩, ⟨2, 3, 9⟩], [1], [1, 1, 1], al, []⟩
theorem twoE_L {al : List Int} (h : al.length ≤ 10) : EsL (twoE al) := ⟨by simp [twoE], by simp [twoE], by simp [twoE], by simp only [twoE]; omega, by simp [twoE], by simp [twoE]⟩
set_option maxRecDepth 100000 in
theorem two_calls (Γ : Nat → Option (List AV)) (al : List Int) (h : AH) :
    ACalls Try.prog Γ 26 [.sl (encI al) .free] h fun v h' => h' = h ∧ v = encEs (twoE al) := by
  refine ACalls.dropL ?_
  refine acalls_code (rs := [.cell 2 26]) Try.func26 rfl rfl rfl rfl Ty.mixed (by kernel_rfl) ?_
  simp (disch := omega) only [go_sem, seval]
  exact ⟨⟨of_eq_true (rb_H _ (twoE al).heirs), of_eq_true (rb_I _ [1]), of_eq_true (rb_I _ [1, 1, 1])⟩, rfl⟩
set_option maxRecDepth 100000 in
theorem planned_calls (Γ : Nat → Option (List AV)) (s : Es) (c : Int) (want : List Sg) (h : AH) (hs : EsL s) (hp : planF s = ⟨want, c, true, 0⟩) (hl : want.length ≤ 1000000) :
    ACalls Try.prog Γ 27 [encEs s, .int .i64 c, .sl (want.map encSg) .free] h fun v h' => h' = h ∧ v = .bool true := by
  have c1 := fun h => pplan_calls Γ s h hs
  have c2 := fun h => rsame_calls Γ want h hl
  rw [hp] at c1
  refine ACalls.drop ?_
  simp only [encEs, esC, encPl] at c1 ⊢
  refine acalls_code (rs := [.tmp 6]) Try.func27 rfl rfl rfl rfl Ty.mixed (by kernel_rfl) ?_
  simp (disch := omega) only [go_sem, seval]
  refine ACalls.det (c1 _) ?_
  simp (disch := omega) only [go_sem, seval]
  refine ACalls.det (c2 _) ?_
  simp (disch := omega) only [go_sem, seval]
def rightL (s : Es) : Bool := decide (s.heirs.length ≤ 6) && decide (s.never.length ≤ 16) && decide (s.members.length ≤ 6) && decide (s.alive.length ≤ 6) && decide (checkE s = 0)
set_option maxRecDepth 100000 in
theorem right52_calls (Γ : Nat → Option (List AV)) (s : Es) (h : AH) (hs : EsL s) :
    ACalls Try.prog Γ 21 [encEs s] h fun v h' => h' = h ∧ v = .bool (rightL s) := by
  have c1 := fun h => rcheck52_calls Γ s h hs
  refine ACalls.drop ?_
  simp only [encEs, esC] at c1 ⊢
  refine acalls_code (rs := [.tmp 2]) Try.func21 rfl rfl rfl rfl Ty.mixed (by kernel_rfl) ?_
  simp (disch := omega) only [go_sem, seval, encHs_len, encNv_len, encI_len]
  have d1 : rightL s = (decide (s.heirs.length ≤ 6) && decide (s.never.length ≤ 16) && decide (s.members.length ≤ 6) && decide (s.alive.length ≤ 6) && decide (checkE s = 0)) := rfl
  refine aIf.intro (fun h1 => ?_) (fun h1 => ?_) <;> simp (disch := omega) only [go_sem, seval, encHs_len, encNv_len, encI_len]
  rotate_left
  · rw [d1, decide_eq_false (p := s.heirs.length ≤ 6) (by omega)]; rfl
  refine aIf.intro (fun h2 => ?_) (fun h2 => ?_) <;> simp (disch := omega) only [go_sem, seval, encHs_len, encNv_len, encI_len]
  rotate_left
  · rw [d1, decide_eq_false (p := s.never.length ≤ 16) (by omega)]; simp
  refine aIf.intro (fun h3 => ?_) (fun h3 => ?_) <;> simp (disch := omega) only [go_sem, seval, encHs_len, encNv_len, encI_len]
  rotate_left
  · rw [d1, decide_eq_false (p := s.members.length ≤ 6) (by omega)]; simp
  refine aIf.intro (fun h4 => ?_) (fun h4 => ?_) <;> simp (disch := omega) only [go_sem, seval, encHs_len, encNv_len, encI_len]
  rotate_left
  · rw [d1, decide_eq_false (p := s.alive.length ≤ 6) (by omega)]; simp
  refine ACalls.det (c1 _) ?_
  simp (disch := omega) only [go_sem, seval]
  rw [d1, decide_eq_true (p := s.heirs.length ≤ 6) (by omega), decide_eq_true (p := s.never.length ≤ 16) (by omega), decide_eq_true (p := s.members.length ≤ 6) (by omega), decide_eq_true (p := s.alive.length ≤ 6) (by omega)]; rfl
theorem ACalls.ofFreeze {P : Program} {Γ : Nat → Option (List AV)} {f : FuncId} {args : List AV} {h h3 : AH} {R : AV → AH → Prop} {i : Nat} {cs : List AV} {T : TypeId} (hi : h[i]? = some (.row cs T)) (hf : Froze i cs h h3) (H : ACalls P Γ f (args.map (fzV i cs)) h3 R) : ACalls P Γ f args h R :=
  ⟨H.1, fun G w vs hI hv => by
    obtain ⟨b, vals, q1, q2, q3⟩ := hI.freeze hi hf
    refine (H.2 _ w vs q2 ⟨by simpa using hv.1, fun j c e => ?_⟩).mono fun _ _ => Res.mono (fun _ _ h => h) q1
    rw [List.getElem?_map] at e
    obtain ⟨c0, h0, rfl⟩ := Option.map_eq_some_iff.1 e
    exact q3 _ _ (hv.2 j c0 h0)⟩
theorem ex1 : planF (twoE []) = ⟨[], 0, false, 0⟩ := by kernel_rfl
theorem ex2 : (if checkE (twoE [2]) = 0 then prf (twoE [2]) else []) = [3, 3, 0, 0] ∧ checkE (twoE [2]) = 0 := by decide +kernel
theorem ex3 : accE (twoE [2]) [⟨1, 2⟩] [3, 3, 0, 0] = (true, 0) := by decide +kernel
theorem ex4 : accE (twoE [2]) [] [3, 3, 0, 0] = (false, 0) := by decide +kernel
theorem ex5 : accE (twoE []) [] [-1, -1, -1, -1] = (true, 0) := by decide +kernel
def forE (m : List Int) : Es := ⟨[⟨1, 5, 7⟩, ⟨2, 3, 9⟩], m, [1, 1, 2], [2], [[1]]⟩
def bothE : Es := ⟨[⟨1, 5, 7⟩, ⟨2, 3, 9⟩], [1, 2], [1, 1, 2], [2], []⟩
theorem ex6 : planF (forE [1]) = ⟨[], 0, false, 0⟩ := by kernel_rfl
theorem ex7 : planF (forE []) = ⟨[⟨1, 2⟩], 3, true, 0⟩ := by kernel_rfl
theorem ex8 : planF (twoE [1]) = ⟨[], 0, true, 0⟩ := by kernel_rfl
theorem ex9 : planF (twoE [2]) = ⟨[⟨1, 2⟩], 3, true, 0⟩ := by kernel_rfl
theorem ex10 : planF bothE = ⟨[⟨2, 1⟩], 7, true, 0⟩ := by kernel_rfl
theorem ex11 : checkE ⟨[], [], [], [], []⟩ = 520 := by decide +kernel
theorem ex12 : checkE ⟨List.replicate 11 ⟨0, 0, 0⟩, [], [], [], []⟩ = 2 := by decide +kernel
theorem ex13 : checkE (twoE []) = 0 := by decide +kernel
set_option maxHeartbeats 4000000 in
set_option maxRecDepth 100000 in
theorem sane52_calls (Γ : Nat → Option (List AV)) (h : AH) :
    ACalls Try.prog Γ 9 [] h fun v h' => h' = h ∧ v = .bool true := by
  have L6 : ∀ m : List Int, m.length ≤ 10 → EsL (forE m) := fun m hm => ⟨by simp [forE], by simp only [forE]; omega, by simp [forE], by simp [forE], by simp [forE], by simp [forE]⟩
  have L7 : EsL bothE := ⟨by simp [bothE], by simp [bothE], by simp [bothE], by simp [bothE], by simp [bothE], by simp [bothE]⟩
  have t0 := fun al h => two_calls Γ al h
  have a1 := fun h => pplan_calls Γ (twoE []) h (twoE_L (by decide))
  have a2 := fun h => pprove_calls Γ (twoE [2]) h (twoE_L (by decide))
  have a3 := fun h => paccepts_calls Γ (twoE [2]) [⟨1, 2⟩] [3, 3, 0, 0] h (twoE_L (by decide)) (by decide) (by decide) (by decide)
  have a4 := fun h => paccepts_calls Γ (twoE [2]) [] [3, 3, 0, 0] h (twoE_L (by decide)) (by decide) (by decide) (by decide)
  have a5 := fun h => paccepts_calls Γ (twoE []) [] [-1, -1, -1, -1] h (twoE_L (by decide)) (by decide) (by decide) (by decide)
  have a6 := fun h => pplan_calls Γ (forE [1]) h (L6 _ (by decide))
  have a7 := fun h => planned_calls Γ (forE []) 3 [⟨1, 2⟩] h (L6 _ (by decide)) ex7 (by decide)
  have a8 := fun h => planned_calls Γ (twoE [1]) 0 [] h (twoE_L (by decide)) ex8 (by decide)
  have a9 := fun h => planned_calls Γ (twoE [2]) 3 [⟨1, 2⟩] h (twoE_L (by decide)) ex9 (by decide)
  have a10 := fun h => planned_calls Γ bothE 7 [⟨2, 1⟩] h L7 ex10 (by decide)
  have a11 := fun h => pcheck_calls Γ ⟨[], [], [], [], []⟩ h ⟨by decide, by decide, by decide, by decide, by decide, by simp⟩
  have a12 := fun h => pcheck_calls Γ ⟨List.replicate 11 ⟨0, 0, 0⟩, [], [], [], []⟩ h ⟨by decide, by decide, by decide, by decide, by decide, by simp⟩
  have a13 := fun h => pcheck_calls Γ (twoE []) h (twoE_L (by decide))
  have a14 := fun h => rsameInts_calls Γ [3, 3, 0, 0] h (by decide)
  rw [ex1] at a1
  rw [ex2.1, ex2.2] at a2
  rw [ex3] at a3
  rw [ex4] at a4
  rw [ex5] at a5
  rw [ex6] at a6
  rw [ex11] at a11
  rw [ex12] at a12
  rw [ex13] at a13
  have tn : ∀ h, _ := t0 []
  have t2 : ∀ h, _ := t0 [2]
  have t1 : ∀ h, _ := t0 [1]
  have t12 : ∀ h, _ := t0 [1, 2]
  simp only [encEs, esC, twoE, forE, bothE, encHs, encH, encI, encNv, encPl, encSg, List.map_cons, List.map_nil] at tn t1 t2 t12 a1 a2 a3 a4 a5 a6 a7 a8 a9 a10 a11 a12 a13 a14
  refine ACalls.drop ?_
  refine acalls_of_awp (rs := [.tmp 0]) Try.func9 rfl rfl rfl rfl ?_
  refine awp_seq (aCode_ok Ty.mixed _ _ _ _ (by kernel_rfl) ?_)
  simp (disch := omega) only [go_sem, seval]
  refine awp_seq (aCode_ok Ty.mixed _ _ _ _ (by kernel_rfl) ?_)
  simp (disch := omega) only [go_sem, seval]
  refine ACalls.det ((tn _).ofLoose rfl) ?_
  simp (disch := omega) only [go_sem, seval]
  refine ACalls.det ((a1 _).ofLoose rfl) ?_
  simp (disch := omega) only [go_sem, seval]
  refine awp_seq (aCode_ok Ty.mixed _ _ _ _ (by kernel_rfl) ?_)
  simp (disch := omega) only [go_sem, seval]
  refine ACalls.det ((t2 _).ofLoose rfl) ?_
  simp (disch := omega) only [go_sem, seval]
  refine ACalls.det ((a2 _).ofLoose rfl) ?_
  simp (disch := omega) only [go_sem, seval]
  refine awp_seq (aCode_ok Ty.mixed _ _ _ _ (by kernel_rfl) ?_)
  simp (disch := omega) only [go_sem, seval]
  refine ACalls.det ((t2 _).ofLoose rfl) ?_
  simp (disch := omega) only [go_sem, seval]
  refine ACalls.det ((a3 _).ofLoose rfl) ?_
  simp (disch := omega) only [go_sem, seval]
  refine awp_seq (aCode_ok Ty.mixed _ _ _ _ (by kernel_rfl) ?_)
  simp (disch := omega) only [go_sem, seval]
  refine ACalls.det ((t2 _).ofLoose rfl) ?_
  simp (disch := omega) only [go_sem, seval]
  refine ACalls.det ((a4 _).ofLoose rfl) ?_
  simp (disch := omega) only [go_sem, seval]
  refine awp_seq (aCode_ok Ty.mixed _ _ _ _ (by kernel_rfl) ?_)
  simp (disch := omega) only [go_sem, seval]
  refine ACalls.det ((tn _).ofLoose rfl) ?_
  simp (disch := omega) only [go_sem, seval]
  refine ACalls.det ((a5 _).ofLoose rfl) ?_
  simp (disch := omega) only [go_sem, seval]
  refine awp_seq (aCode_ok Ty.mixed _ _ _ _ (by kernel_rfl) ?_)
  simp (disch := omega) only [go_sem, seval]
  refine ACalls.det ((a14 _).ofLoose rfl) ?_
  simp (disch := omega) only [go_sem, seval]
  refine awp_seq (aCode_ok Ty.mixed _ _ _ _ (by kernel_rfl) ?_)
  simp (disch := omega) only [go_sem, seval]
  refine ACalls.det ((t2 _).ofLoose rfl) ?_
  simp (disch := omega) only [go_sem, seval]
  refine awp_seq (aCode_ok Ty.mixed _ _ _ _ (by kernel_rfl) ?_)
  simp (disch := omega) only [go_sem, seval]
  refine awp_seq (aCode_ok Ty.mixed _ _ _ _ (by kernel_rfl) ?_)
  simp (disch := omega) only [go_sem, seval]
  refine awp_seq (aCode_ok Ty.mixed _ _ _ _ (by kernel_rfl) ?_)
  simp (disch := omega) only [go_sem, seval]
  refine ACalls.det ((a6 _).ofLoose rfl) ?_
  simp (disch := omega) only [go_sem, seval]
  refine awp_seq (aCode_ok Ty.mixed _ _ _ _ (by kernel_rfl) ?_)
  simp (disch := omega) only [go_sem, seval]
  refine awp_seq (aCode_ok Ty.mixed _ _ _ _ (by kernel_rfl) ?_)
  simp (disch := omega) only [go_sem, seval]
  refine ACalls.det ((t12 _).ofLoose rfl) ?_
  simp (disch := omega) only [go_sem, seval]
  refine awp_seq (aCode_ok Ty.mixed _ _ _ _ (by kernel_rfl) ?_)
  simp (disch := omega) only [go_sem, seval]
  refine awp_seq (aCode_ok Ty.mixed _ _ _ _ (by kernel_rfl) ?_)
  simp (disch := omega) only [go_sem, seval]
  refine awp_seq (aCode_ok Ty.mixed _ _ _ _ (by kernel_rfl) ?_)
  simp (disch := omega) only [go_sem, seval]
  refine awp_seq (aCode_ok Ty.mixed _ _ _ _ (by kernel_rfl) ?_)
  simp (disch := omega) only [go_sem, seval]
  refine ACalls.det ((a7 _).ofLoose rfl) ?_
  simp (disch := omega) only [go_sem, seval]
  refine ACalls.det ((t1 _).ofLoose rfl) ?_
  simp (disch := omega) only [go_sem, seval]
  refine ACalls.det ((a8 _).ofLoose rfl) ?_
  simp (disch := omega) only [go_sem, seval]
  refine ACalls.det ((t2 _).ofLoose rfl) ?_
  simp (disch := omega) only [go_sem, seval]
  refine ACalls.det ((a9 _).ofLoose rfl) ?_
  simp (disch := omega) only [go_sem, seval]
  refine ACalls.det ((a10 _).ofLoose rfl) ?_
  simp (disch := omega) only [go_sem, seval]
  refine ACalls.det ((a11 _).ofLoose rfl) ?_
  simp (disch := omega) only [go_sem, seval]
  obtain ⟨cs, hcs⟩ : ∃ cs, cs = zrow 11 [.int .i64 0, .int .i64 0, .int .i64 0] := ⟨_, rfl⟩
  rw [← hcs]
  have el : loose (.sl (rowsOf 3 11 cs) .free) = .sl (encHs (List.replicate 11 ⟨0, 0, 0⟩)) .free := by rw [hcs]; kernel_rfl
  have hi : ∀ a b, (h ++ [a, b, .row cs 50])[h.length + 2]? = some (.row cs 50) := fun a b => by rw [hget_add]; rfl
  refine ACalls.ofFreeze (hi _ _) (Froze.set (hi _ _)) ?_
  refine ACalls.detH (ACalls.ofLoose (a12 _) ?_) ?_
  · have e1 : fzOK cs 0 11 11 3 = true := by rw [hcs]; decide +kernel
    simp only [List.map_cons, List.map_nil, fzV, fzL, looseL, loose]
    rw [if_pos ⟨trivial, e1⟩, List.drop_zero, el]
    rfl
  rw [hset_add]
  simp (disch := omega) only [go_sem, seval]
  refine ACalls.det ((tn _).ofLoose rfl) ?_
  simp (disch := omega) only [go_sem, seval]
  refine ACalls.det ((a13 _).ofLoose rfl) ?_
  simp (disch := omega) only [go_sem, seval]
  refine aCode_ok Ty.mixed _ _ _ _ (by kernel_rfl) ?_
  simp (disch := omega) only [go_sem, seval]
end Go.Proofs.Ytaepdkjfaeepmaa

/- Plain facts about plans and proofs. No conditions. -/
set_option linter.unusedSimpArgs false
set_option linter.unusedVariables false
namespace Go.Proofs.Ytaepdkjfaeepmaa
open Go Go.Proofs Go.Abs

theorem holds_EG {s : Es} {H : List Int} {m : Nat} : holdsE s H m = holdsG (grOf s) (hv H) m := by
  have e1 : (grOf s).safe m = safeF s m := rfl
  have e2 : (grOf s).liv m = livF s m := rfl
  unfold holdsE holdsG
  rw [e1, e2]
  have e3 : ((grOf s).ways m).all (fun w => !((grOf s).safe w.1 && decide (0 ≤ hv H w.1) && (decide (hv H m < 0) || decide (hv H w.1 < hv H m - w.2)))) = (stagesL s).all (stOK s H m) := by
    show ((stagesL s).filterMap fun x => if (stepF s m x).1 < 0 then none else some ((stepF s m x).1.toNat, (stepF s m x).2)).all _ = _
    induction stagesL s with
    | nil => rfl
    | cons x r ih =>
      rw [List.filterMap_cons, List.all_cons, ← ih]
      by_cases h : (stepF s m x).1 < 0
      · rw [if_pos h]
        have : stOK s H m x = true := by rw [stOK, decide_eq_false (p := 0 ≤ (stepF s m x).1) (by omega)]; rfl
        simp only [this, Bool.true_and]
      · rw [if_neg h]
        have h1 : (((stepF s m x).1.toNat : Nat) : Int) = (stepF s m x).1 := by omega
        have h2 : (grOf s).safe (stepF s m x).1.toNat = safeF s (stepF s m x).1 := by
          show safeF s ((stepF s m x).1.toNat : Nat) = _
          rw [h1]
        simp only [List.all_cons, h2]
        rw [stOK, decide_eq_true (p := 0 ≤ (stepF s m x).1) (by omega), Bool.true_and]
  rw [e3]
theorem holdsG_congr {g : Gr} (hg : g.Good) {H K : Nat → Int} (e : ∀ m, m < g.N → H m = K m) {m : Nat} (hm : m < g.N) : holdsG g H m = holdsG g K m := by
  unfold holdsG
  rw [e m hm]
  have : (g.ways m).all (fun w => !(g.safe w.1 && decide (0 ≤ H w.1) && (decide (K m < 0) || decide (H w.1 < K m - w.2)))) = (g.ways m).all (fun w => !(g.safe w.1 && decide (0 ≤ K w.1) && (decide (K m < 0) || decide (K w.1 < K m - w.2)))) := by
    refine Bool.eq_iff_iff.2 ?_
    simp only [List.all_eq_true]
    exact forall_congr' fun w => forall_congr' fun hw => by rw [e w.1 (hg.ins m w.1 w.2 hm hw)]
  rw [this]
theorem hv_prf {s : Es} {m : Nat} (hm : m < 2 ^ s.heirs.length) : hv (prf s) m = (tabF (tabE s) m).1 := by
  have := tabF_get (tab := tabE s) (i := m) (by rw [tabE_len]; exact hm)
  rw [hv, prf, List.getD_eq_getElem?_getD, List.getElem?_map, this]; rfl
theorem allH_iff {s : Es} {H : List Int} : allH s H = true ↔ ∀ m, m < 2 ^ s.heirs.length → holdsG (grOf s) (hv H) m = true := by
  unfold allH
  rw [List.all_eq_true]
  simp only [List.mem_range, holds_EG]
/-- What an estate that is right is. -/
theorem check_esR {s : Es} (hs : EsL s) (h : checkE s = 0) : EsR s := right_esR hs (check0 h).2.2 (by have := (check0 h).1; omega)
theorem check_num {s : Es} (h : checkE s = 0) : numN s.heirs s.members < 2 ^ s.heirs.length := (num_lt (right_hsOK h).srt (right_hsOK h).mem).1
theorem prf_allH {s : Es} (hs : EsR s) : allH s (prf s) = true := allH_iff.2 fun m hm => by
  rw [holdsG_congr (grOf_good hs) (K := fun i => (tabF (tabE s) i).1) (fun i hi => hv_prf hi) hm]
  exact right_holds (grOf_good hs) (fun m hm => tabE_right hs hm) hm
theorem tab_short {s : Es} (hs : EsR s) {m : Nat} (hm : m < 2 ^ s.heirs.length) : (tabF (tabE s) m).2 < 2 ^ s.heirs.length := by
  have h := tabE_right hs hm
  by_cases h0 : 0 ≤ (tabF (tabE s) m).1
  · exact Right.short (grOf_good hs) hm h h0
  · rcases h with ⟨h1, _⟩ | ⟨h1, _⟩
    · exact absurd h1 h0
    · rw [h1]; exact Nat.pow_pos (by decide)
theorem plan_len {s : Es} (hs : EsL s) : (planF s).l.length < 1024 ∧ (checkE s = 0 → (planF s).l.length < 2 ^ s.heirs.length) := by
  by_cases h : checkE s = 0
  · have hR := check_esR hs h
    have hm := check_num h
    have key : (planF s).l.length < 2 ^ s.heirs.length := by
      unfold planF
      rw [if_neg (by simpa using h)]
      split
      · exact Nat.pow_pos (by decide)
      · rename_i h1
        rw [path_len hR _ _ hm (by omega) rfl]
        exact tab_short hR hm
    have h10 := Nat.pow_le_pow_right (n := 2) (by decide) (check0 h).1
    exact ⟨by omega, fun _ => key⟩
  · unfold planF
    rw [if_pos h]
    exact ⟨by simp, fun e => absurd e h⟩
theorem proof_len {s : Es} : (if checkE s = 0 then prf s else []).length ≤ 1024 := by
  split
  · rename_i h
    rw [prf_len]
    exact Nat.pow_le_pow_right (n := 2) (by decide) (check0 h).1
  · decide
/-- What Plan returns is accepted. -/
theorem acc_own {s : Es} (hs : EsL s) (h : checkE s = 0) : accE s (planF s).l (prf s) = (true, 0) := by
  have hR := check_esR hs h
  have hm := check_num h
  have hb := tabE_bound hR hm
  have hp : planF s = if (tabF (tabE s) (numN s.heirs s.members)).1 < 0 then ⟨[], 0, false, 0⟩ else ⟨pathF s (tabF (tabE s) (numN s.heirs s.members)).2 (numN s.heirs s.members), (tabF (tabE s) (numN s.heirs s.members)).1, true, 0⟩ := by unfold planF; rw [if_neg (fun e => e h)]
  unfold accE
  rw [if_neg (fun e => e h), if_neg (fun e => e (prf_len s)), if_neg (by rw [prf_allH hR]; simp), hv_prf hm, hp]
  by_cases h1 : (tabF (tabE s) (numN s.heirs s.members)).1 < 0
  · rw [if_pos (by omega), if_pos h1]; rfl
  · rw [if_neg (by omega), if_neg h1]
    simp only
    rw [walkR, path_walk hR _ _ hm (by omega) rfl]
    simp
end Go.Proofs.Ytaepdkjfaeepmaa
