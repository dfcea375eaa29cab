/- Texts joined: SucZm. No conditions. -/
import Derived.Test.YtaepdkjfaeepmaaMrDO
/- Easier estates: no plan is dearer. Plain. No conditions. -/
set_option linter.unusedSimpArgs false
set_option linter.unusedVariables false
namespace Go.Proofs.Ytaepdkjfaeepmaa
open Go Go.Proofs Go.Abs

theorem heirI_mem (p : Int) : ∀ (l : List Hr), (∃ y ∈ l, y.person = p) → 0 ≤ heirI l p
  | [], h => by obtain ⟨y, h, _⟩ := h; cases h
  | x :: r, h => by
    rw [heirI]
    by_cases e : x.person = p
    · rw [if_pos e]; omega
    · rw [if_neg e]
      have := heirI_mem p r (by
        obtain ⟨y, hy, hp⟩ := h
        rcases List.mem_cons.1 hy with rfl | hy
        · exact absurd hp e
        · exact ⟨y, hy, hp⟩)
      rw [if_neg (by omega)]; omega
theorem hsF_of {hs : List Hr} : ∀ (l : List Int) (o : Option Int), (∀ x ∈ l, 0 ≤ heirI hs x) → l.Pairwise (· < ·) → (∀ x ∈ l, ltO o x = true) → hsF hs o l = true
  | [], _, _, _, _ => rfl
  | x :: r, o, h1, h2, h3 => by
    rw [List.pairwise_cons] at h2
    rw [hsF, decide_eq_true (h1 x (List.mem_cons_self ..)), h3 x (List.mem_cons_self ..), Bool.true_and, Bool.true_and]
    exact hsF_of r (some x) (fun y hy => h1 y (List.mem_cons_of_mem _ hy)) h2.2 fun y hy => by simpa [ltO] using h2.1 y hy
theorem hsF_inv {hs : List Hr} : ∀ (l : List Int) (o : Option Int), hsF hs o l = true → (∀ x ∈ l, 0 ≤ heirI hs x) ∧ l.Pairwise (· < ·) ∧ ∀ x ∈ l, ltO o x = true
  | [], _, _ => ⟨by simp, .nil, by simp⟩
  | x :: r, o, h => by
    rw [hsF, Bool.and_eq_true, Bool.and_eq_true, decide_eq_true_eq] at h
    obtain ⟨⟨a, b⟩, c⟩ := h
    obtain ⟨i1, i2, i3⟩ := hsF_inv r (some x) c
    have i4 : ∀ y ∈ r, x < y := fun y hy => by simpa [ltO] using i3 y hy
    refine ⟨fun y hy => ?_, List.pairwise_cons.2 ⟨i4, i2⟩, fun y hy => ?_⟩
    · rcases List.mem_cons.1 hy with rfl | hy
      · exact a
      · exact i1 y hy
    · rcases List.mem_cons.1 hy with rfl | hy
      · exact b
      · have := i4 y hy
        cases o with
        | none => rfl
        | some z => simp [ltO] at b ⊢; omega
theorem sorted_sub : ∀ (l2 l1 : List Int), l1.Pairwise (· < ·) → l2.Pairwise (· < ·) → (∀ x ∈ l1, x ∈ l2) → l1.Sublist l2
  | [], l1, _, _, h => by
    cases l1 with
    | nil => exact .slnil
    | cons x r => exact absurd (h x (List.mem_cons_self ..)) (by simp)
  | y :: r, l1, h1, h2, h => by
    rw [List.pairwise_cons] at h2
    cases l1 with
    | nil => exact List.nil_sublist _
    | cons x r1 =>
      rw [List.pairwise_cons] at h1
      rcases List.mem_cons.1 (h x (List.mem_cons_self ..)) with e | e
      · subst e
        refine (sorted_sub r r1 h1.2 h2.2 fun z hz => ?_).cons_cons x
        rcases List.mem_cons.1 (h z (List.mem_cons_of_mem _ hz)) with e | e
        · have := h1.1 z hz; omega
        · exact e
      · refine (sorted_sub r (x :: r1) (List.pairwise_cons.2 h1) h2.2 fun z hz => ?_).cons y
        have hyx := h2.1 x e
        rcases List.mem_cons.1 (h z hz) with e' | e'
        · rcases List.mem_cons.1 hz with e2 | hz
          · rw [e2]; exact e
          · have := h1.1 z hz; omega
        · exact e'
/-- Is an heir alive in the easier estate? -/
def easyB (al : List Int) (more : Int) (x : Hr) : Bool := decide (x.person = more) || al.any fun p => decide (p = x.person)
def easyAl (hs : List Hr) (al : List Int) (more : Int) : List Int := (hs.filter (easyB al more)).map (·.person)
def easyE (s : Es) (more : Int) (nv : List (List Int)) : Es := ⟨s.heirs, s.members, s.needs, easyAl s.heirs s.alive more, nv⟩
theorem easyAl_len (hs : List Hr) (al : List Int) (more : Int) : (easyAl hs al more).length ≤ hs.length := by
  rw [easyAl, List.length_map]; exact List.length_filter_le _ _
theorem easy_al {s : Es} (hO : HsOK s) (more : Int) : hsF s.heirs none (easyAl s.heirs s.alive more) = true := by
  refine hsF_of _ _ (fun p hp => ?_) ?_ fun _ _ => rfl
  · obtain ⟨x, hx, e⟩ := List.mem_map.1 hp
    exact heirI_mem _ _ ⟨x, (List.mem_filter.1 hx).1, e⟩
  · rw [easyAl, List.pairwise_map]
    exact hO.srt.sublist List.filter_sublist
theorem easy_sub {s : Es} (hO : HsOK s) (more : Int) : s.alive.Sublist (easyAl s.heirs s.alive more) := by
  obtain ⟨a1, a2, _⟩ := hsF_inv _ _ hO.al
  obtain ⟨b1, b2, _⟩ := hsF_inv _ _ (easy_al hO more)
  refine sorted_sub _ _ a2 b2 fun p hp => ?_
  obtain ⟨x, hx, e⟩ := heirI_spec p s.heirs (a1 p hp)
  refine List.mem_map.2 ⟨x, List.mem_filter.2 ⟨List.mem_of_getElem? hx, ?_⟩, e⟩
  rw [easyB, Bool.or_eq_true]
  exact .inr (List.any_eq_true.2 ⟨p, hp, by simp [e]⟩)
theorem okH_same {s t : Es} (e : t.needs = s.needs) : ∀ (l : List Hr) (o : Option Int) (i : Nat), okH t o i l = okH s o i l
  | [], _, _ => rfl
  | x :: r, o, i => by
    rw [okH, okH, okH_same e r]
    congr 1
    have h1 : nd t (i + 1) = nd s (i + 1) := by rw [nd, nd, e]
    unfold okX
    rw [h1]
theorem easy_check {s : Es} (h : checkE s = 0) (more : Int) {nv : List (List Int)} (hn : ∀ c ∈ nv, c ∈ s.never) (hl : nv.length ≤ s.never.length) : checkE (easyE s more nv) = 0 := by
  have hO := right_hsOK h
  obtain ⟨h1, h2, h3⟩ := check0 h
  have h3 : rightE s = true := h3
  simp only [rightE, Bool.and_eq_true, decide_eq_true_eq, List.all_eq_true] at h3
  obtain ⟨⟨⟨⟨⟨⟨a1, a2⟩, a3⟩, a4⟩, a5⟩, a6⟩, a7⟩ := h3
  have : rightE (easyE s more nv) = true := by
    simp only [rightE, Bool.and_eq_true, decide_eq_true_eq, List.all_eq_true]
    refine ⟨⟨⟨⟨⟨⟨a1, a2⟩, a3⟩, a4⟩, easy_al hO more⟩, ?_⟩, fun c hc => a7 c (hn c hc)⟩
    exact (okH_same (s := s) (t := easyE s more nv) rfl _ _ _).trans a6
  unfold checkE
  rw [if_neg, if_pos this]
  simp only [easyE]
  omega
theorem easy_safe {s : Es} {more : Int} {nv : List (List Int)} (hn : ∀ c ∈ nv, c ∈ s.never) (m : Nat) (h : safeF s m = true) : safeF (easyE s more nv) m = true := by
  unfold safeF at *
  rw [List.all_eq_true] at *
  exact fun c hc => h c (hn c hc)
theorem easy_liv {s : Es} (hO : HsOK s) {more : Int} {nv : List (List Int)} (m : Nat) (h : livF s m = true) : livF (easyE s more nv) m = true := by
  unfold livF at *
  rw [decide_eq_true_eq] at *
  have h1 : needF (easyE s more nv) m = needF s m := rfl
  have h2 : amongF s.heirs m s.alive ≤ amongF (easyE s more nv).heirs m (easyE s more nv).alive := ((easy_sub hO more).filter _).length_le
  omega
theorem plan_easier {s : Es} (hs : EsL s) (h : checkE s = 0) {more : Int} {nv : List (List Int)} (hn : ∀ c ∈ nv, c ∈ s.never) (hl : nv.length ≤ s.never.length) (he : EsL (easyE s more nv)) :
    (planF (easyE s more nv)).e = 0 ∧ ((planF s).ok = true → (planF (easyE s more nv)).ok = true ∧ (planF (easyE s more nv)).c ≤ (planF s).c) := by
  have hO := right_hsOK h
  have h' := easy_check h more hn hl
  have hR := check_esR hs h
  have hR' := check_esR he h'
  have hm := check_num h
  have r1 := tabE_right hR hm
  have r2 : Right (grOf (easyE s more nv)) (numN s.heirs s.members) (tabF (tabE (easyE s more nv)) (numN s.heirs s.members)) := tabE_right hR' hm
  have hp : planF s = if (tabF (tabE s) (numN s.heirs s.members)).1 < 0 then ⟨[], 0, false, 0⟩ else ⟨pathF s (tabF (tabE s) (numN s.heirs s.members)).2 (numN s.heirs s.members), (tabF (tabE s) (numN s.heirs s.members)).1, true, 0⟩ := by unfold planF; rw [if_neg (fun e => e h)]
  have hp' : planF (easyE s more nv) = if (tabF (tabE (easyE s more nv)) (numN s.heirs s.members)).1 < 0 then ⟨[], 0, false, 0⟩ else ⟨pathF (easyE s more nv) (tabF (tabE (easyE s more nv)) (numN s.heirs s.members)).2 (numN s.heirs s.members), (tabF (tabE (easyE s more nv)) (numN s.heirs s.members)).1, true, 0⟩ := by unfold planF; rw [if_neg (fun e => e h')]; rfl
  rw [hp, hp']
  by_cases k1 : (tabF (tabE s) (numN s.heirs s.members)).1 < 0
  · rw [if_pos k1]
    refine ⟨by split <;> rfl, by simp⟩
  · rw [if_neg k1]
    have := Right.easier (g := grOf s) (g' := grOf (easyE s more nv)) (easy_safe hn) (easy_liv hO) (fun _ => rfl) r1 r2 (by omega)
    rw [if_neg (by omega)]
    exact ⟨rfl, fun _ => ⟨rfl, this.2⟩⟩
end Go.Proofs.Ytaepdkjfaeepmaa
