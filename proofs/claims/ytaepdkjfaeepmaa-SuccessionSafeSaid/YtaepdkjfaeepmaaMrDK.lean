/- Texts joined: SucZe, SucZf. No conditions. -/
import Derived.Test.YtaepdkjfaeepmaaMrDJ
/- The program's Plan. No conditions. -/
set_option linter.unusedSimpArgs false
set_option linter.unusedVariables false
namespace Go.Proofs.Ytaepdkjfaeepmaa
open Go Go.Proofs Go.Abs

def leadW (s : Es) (m : Nat) (w : Wy) : Bool := decide (0 ≤ (tabF (tabE s) w.t).1) && decide ((tabF (tabE s) w.t).1 + w.c = (tabF (tabE s) m).1) && decide ((tabF (tabE s) w.t).2 + 1 = (tabF (tabE s) m).2)
theorem find_leadW (s : Es) (m : Nat) : (stagesL s).find? (leadF s m) = ((wayL s m).find? (leadW s m)).map (fun w => w.x) := by
  unfold wayL
  induction stagesL s with
  | nil => rfl
  | cons x r ih =>
    by_cases h : (stepF s m x).1 < 0
    · have e : fW s m x = none := by unfold fW; rw [if_pos h]
      have e2 : leadF s m x = false := by unfold leadF; rw [decide_eq_false (by omega)]; rfl
      rw [List.filterMap_cons_none e, List.find?_cons_of_neg (by rw [e2]; simp), ih]
    · have e : fW s m x = some ⟨x, (stepF s m x).1.toNat, (stepF s m x).2⟩ := by unfold fW; rw [if_neg h]
      have e2 : leadF s m x = leadW s m ⟨x, (stepF s m x).1.toNat, (stepF s m x).2⟩ := by unfold leadF leadW; rw [decide_eq_true (show 0 ≤ (stepF s m x).1 by omega), Bool.true_and]
      rw [List.filterMap_cons_some e]
      cases hl : leadW s m ⟨x, (stepF s m x).1.toNat, (stepF s m x).2⟩ with
      | true => rw [List.find?_cons_of_pos (by rw [e2]; exact hl), List.find?_cons_of_pos hl]; rfl
      | false => rw [List.find?_cons_of_neg (by rw [e2, hl]; simp), List.find?_cons_of_neg (by rw [hl]; simp), ih]
theorem way_to {s : Es} {m : Nat} {w : Wy} (h : w ∈ wayL s m) : (stepF s m w.x).1.toNat = w.t := by
  obtain ⟨x, _, e⟩ := List.mem_filterMap.1 h
  unfold fW at e
  split at e
  · cases e
  · cases e; rfl
theorem path_step {s : Es} {m k : Nat} {w : Wy} (h : (wayL s m).find? (leadW s m) = some w) : pathF s (k + 1) m = w.x :: pathF s k w.t := by
  rw [pathF, find_leadW, h]
  simp only [Option.map_some]
  rw [way_to (List.mem_of_find?_eq_some h)]
theorem lead_way {s : Es} (hs : EsR s) {m : Nat} (hm : m < 2 ^ s.heirs.length) (h0 : 0 ≤ (tabF (tabE s) m).1) (hk : 0 < (tabF (tabE s) m).2) : ∃ w, (wayL s m).find? (leadW s m) = some w := by
  obtain ⟨x, hx, _⟩ := find_lead hs hm h0 hk
  rw [find_leadW] at hx
  cases e : (wayL s m).find? (leadW s m) with
  | none => rw [e] at hx; cases hx
  | some w => exact ⟨w, rfl⟩
theorem leadW_iff {s : Es} {m : Nat} {w : Wy} : leadW s m w = true ↔ 0 ≤ (tabF (tabE s) w.t).1 ∧ (tabF (tabE s) w.t).1 + w.c = (tabF (tabE s) m).1 ∧ (tabF (tabE s) w.t).2 + 1 = (tabF (tabE s) m).2 := by
  simp [leadW, and_assoc]
def allV (s : Es) : AV := .sl ((allL (2 ^ s.heirs.length) (tabF (tabE s))).map fun e => .agg (encR e)) .free
theorem allV_get {s : Es} {m : Nat} (hm : m < 2 ^ s.heirs.length) : ((allL (2 ^ s.heirs.length) (tabF (tabE s))).map fun e => AV.agg (encR e))[m]? = some (.agg (encR (m, tabF (tabE s) m))) := by
  simp [allL, hm]
/-- What stands where while a plan is being made. -/
structure PlJ (s : Es) (h0 : AH) (m : Nat) (l : List Sg) (own : Abs.Own) (j : AH) : Prop where
  e0 : j[0]? = some (.row (esC s) 26)
  e1 : j[1]? = some (.row [.sl (l.map encSg) own] 29)
  e2 : j[2]? = some (.row (hsC s) 61)
  e3 : j[3]? = some (.row [allV s] 64)
  e4 : j[4]? = some (.row (encR (m, tabF (tabE s) m)) 67)
  ow : OwnAt h0 j l.length own
theorem PlJ.app {s : Es} {h0 : AH} {m : Nat} {l : List Sg} {own : Abs.Own} {j : AH} (H : PlJ s h0 m l own j) (k : AH) : PlJ s h0 m l own (j ++ k) :=
  have f : ∀ {i ob}, j[i]? = some ob → (j ++ k)[i]? = some ob := fun {i ob} e => by rw [List.getElem?_append_left (List.getElem?_eq_some_iff.1 e).1]; exact e
  ⟨f H.e0, f H.e1, f H.e2, f H.e3, f H.e4, H.ow.app k⟩
def NLj (k : Nat) (j : AH) : Prop := ∀ (i : Nat) (ob : AObj), i ≠ k → j[i]? = some ob → ∀ st pe li, ob ≠ .loop st pe li
theorem OwnAt.set {K j : AH} {n k : Nat} {own : Abs.Own} {o : AObj} (h : OwnAt K j n own) (e : j[k]? = some o) (ho : ∀ n, o ≠ .arena n) (o' : AObj) : OwnAt K (j.set k o') n own := by
  cases own with
  | free => exact h
  | full => exact h
  | arena i =>
    obtain ⟨q, h1, h2⟩ := h
    refine ⟨q, h1, ?_⟩
    rw [List.getElem?_set_ne (fun e' => ?_)]
    · exact h2
    · subst e'; rw [e] at h2; exact ho _ (Option.some.inj h2)
/-- An append, of which also is known that it makes nothing but arenas. -/
theorem aAp_nl {n by_ : Nat} {rows xs : List AV} {own o : Abs.Own} {K j : AH} {C : AV → AH → Prop} (ho : OwnAt K j rows.length own) (h1 : RowsOK n rows) (h2 : RowsOK n xs)
    (h3 : rows.length + xs.length ≤ 9223372036854775807) (h4 : (rows.length + xs.length) * by_ ≤ 140737488355328)
    (H : ∀ j' own', OwnAt K j' (rows.length + xs.length) own' → Grew j j' → (∀ (i : Nat) (ob : AObj), j'[i]? = some ob → j[i]? = some ob ∨ ∃ n, ob = AObj.arena n) → C (.sl (rows ++ xs) own') (K ++ j')) : aAp (some (n, by_)) (.sl rows own) (.sl xs o) (K ++ j) C := by
  refine ⟨xs, rfl, h1, h2, h3, h4, ?_⟩
  cases own with
  | free => exact ho.elim
  | full =>
    have := H (j ++ [.arena (rows.length + xs.length)]) (.arena (K.length + j.length)) ⟨j.length, rfl, by simp⟩ ⟨by simp, fun i o e _ => hget_left _ e⟩ (fun i ob e => by
      rw [List.getElem?_append] at e
      split at e
      · exact .inl e
      · refine .inr ⟨rows.length + xs.length, ?_⟩
        cases hk : i - j.length with
        | zero => rw [hk] at e; simpa using e.symm
        | succ k => rw [hk] at e; simp at e)
    simpa [List.append_assoc] using this
  | arena i =>
    obtain ⟨i', rfl, e⟩ := ho
    have e' : (K ++ j)[K.length + i']? = some (.arena rows.length) := by rw [hget_add]; exact e
    show (match (K ++ j)[K.length + i']? with
      | some (.arena m) => m = rows.length ∧ C (.sl (rows ++ xs) (.arena (K.length + i'))) ((K ++ j).set (K.length + i') (.arena (rows.length + xs.length)))
      | _ => False)
    rw [e']
    refine ⟨rfl, ?_⟩
    rw [hset_add]
    have hi : i' < j.length := (List.getElem?_eq_some_iff.1 e).1
    refine H _ _ ⟨i', rfl, by rw [List.getElem?_set_self hi]⟩ ⟨by simp, fun k o ek hk => ?_⟩ (fun k ob ek => ?_)
    · rw [List.getElem?_set]
      split
      · rename_i hik
        subst hik
        rw [e] at ek; cases ek
        exact absurd rfl (hk _)
      · exact ek
    · rw [List.getElem?_set] at ek
      split at ek
      · exact .inr ⟨_, (Option.some.inj (by simpa [hi] using ek)).symm⟩
      · exact .inl ek
theorem PlJ.set {s : Es} {h0 : AH} {m : Nat} {l : List Sg} {own : Abs.Own} {j : AH} (H : PlJ s h0 m l own j) {k : Nat} {o o' : AObj} (hk : 5 ≤ k) (e : j[k]? = some o) (ho : ∀ n, o ≠ .arena n) : PlJ s h0 m l own (j.set k o') :=
  have f : ∀ {i ob}, i < 5 → j[i]? = some ob → (j.set k o')[i]? = some ob := fun {i ob} hi e => by rw [List.getElem?_set_ne (by omega)]; exact e
  ⟨f (by decide) H.e0, f (by decide) H.e1, f (by decide) H.e2, f (by decide) H.e3, f (by decide) H.e4, OwnAt.set H.ow e ho o'⟩
theorem NLj.app {k : Nat} {j : AH} (h : NLj k j) (cs : List AV) (T : TypeId) : NLj k (j ++ [.row cs T]) := fun i ob hi e => by
  rw [List.getElem?_append] at e
  split at e
  · exact h i ob hi e
  · intro st pe li e'
    subst e'
    cases hk : i - j.length with
    | zero => rw [hk] at e; simp at e
    | succ k => rw [hk] at e; simp at e
theorem NLj.set {k : Nat} {j : AH} (h : NLj k j) (o : AObj) : NLj k (j.set k o) := fun i ob hi e => by
  rw [List.getElem?_set_ne (Ne.symm hi)] at e; exact h i ob hi e
theorem PlJ.len {s : Es} {h0 : AH} {m : Nat} {l : List Sg} {own : Abs.Own} {j : AH} (H : PlJ s h0 m l own j) : 4 < j.length := (List.getElem?_eq_some_iff.1 H.e4).1
theorem NLj.setRow {k i : Nat} {j : AH} (h : NLj k j) (cs : List AV) (T : TypeId) : NLj k (j.set i (.row cs T)) := fun q ob hq e => by
  rw [List.getElem?_set] at e
  split at e
  · split at e
    · cases e; exact fun _ _ _ => by simp
    · cases e
  · exact h q ob hq e
theorem NLj.ext {k : Nat} {j j' : AH} (h : NLj k j) (H : ∀ (i : Nat) (ob : AObj), j'[i]? = some ob → j[i]? = some ob ∨ ∃ n, ob = AObj.arena n) : NLj k j' := fun q ob hq e => by
  rcases H q ob e with e | ⟨n, rfl⟩
  · exact h q ob hq e
  · exact fun _ _ _ => by simp
end Go.Proofs.Ytaepdkjfaeepmaa

/- The program's Plan: the walk. No conditions. -/
set_option linter.unusedSimpArgs false
set_option linter.unusedVariables false
namespace Go.Proofs.Ytaepdkjfaeepmaa
open Go Go.Proofs Go.Abs

structure PwS where
  m : Nat
  l : List Sg
  own : Abs.Own
  j : AH
set_option maxHeartbeats 8000000 in
set_option maxRecDepth 100000 in
theorem pplan_calls (Γ : Nat → Option (List AV)) (s : Es) (h : AH) (hs : EsL s) :
    ACalls Try.prog Γ 11 [encEs s] h fun v h' => h' = h ∧ v = encPl (planF s) := by
  have c1 := fun h => penter_calls Γ s h hs
  refine ACalls.dropL ?_
  simp only [encEs, esC] at c1 ⊢
  refine acalls_code (rs := [.cell 2 29, .tmp 3, .tmp 4, .tmp 5]) Try.func11 rfl rfl rfl rfl Ty.mixed (by kernel_rfl) ?_
  simp (disch := omega) only [go_sem, seval]
  refine ACalls.then (c1 _) ?_
  rintro v _ ⟨rfl, hc, rfl, h1, h2, h3⟩
  simp (disch := omega) only [go_sem, seval]
  refine ⟨by rw [h1], List.all_eq_true.2 h2, by omega, ?_⟩
  rw [splice5 rfl h1]
  have hpl : planF s = if checkE s ≠ 0 then ⟨[], 0, false, checkE s⟩ else if (tabF (tabE s) (numN s.heirs s.members)).1 < 0 then ⟨[], 0, false, 0⟩ else ⟨pathF s (tabF (tabE s) (numN s.heirs s.members)).2 (numN s.heirs s.members), (tabF (tabE s) (numN s.heirs s.members)).1, true, 0⟩ := rfl
  refine aIf.intro (fun h4 => ?_) (fun h4 => ?_) <;> simp (disch := omega) only [go_sem, seval]
  rotate_left
  · rw [hpl, if_pos h4]; rfl
  rw [if_neg (by simpa using h4)] at hpl
  have hhc := h3 h4
  subst hhc
  obtain ⟨hl10, _, hr⟩ := check0 h4
  have hR := right_esR hs hr (by omega)
  have hO := right_hsOK h4
  have hnum := (num_lt hO.srt hO.mem).1
  obtain ⟨N, hN⟩ : ∃ N, N = 2 ^ s.heirs.length := ⟨_, rfl⟩
  have hN1 : N ≤ 1024 := by rw [hN]; exact Nat.pow_le_pow_right (n := 2) (by decide) hl10
  have c2 := fun i h hi => pleast_calls Γ s i h hO hR hi
  refine ACalls.det (c2 _ _ (by simp)) ?_
  have hst : (hsC s)[1]? = some (.int .u64 (numN s.heirs s.members)) := rfl
  have e0 := allV_get hnum
  have hAV : ∀ {m : Nat}, m < N → ((allL (2 ^ s.heirs.length) (tabF (tabE s))).map fun e => AV.agg (encR e))[m]? = some (.agg (encR (m, tabF (tabE s) m))) := fun hm => allV_get (hN ▸ hm)
  have hAVd : allV s = .sl ((allL (2 ^ s.heirs.length) (tabF (tabE s))).map fun e => .agg (encR e)) .free := rfl
  obtain ⟨AL, hAL⟩ : ∃ AL, AL = (allL (2 ^ s.heirs.length) (tabF (tabE s))).map fun e => AV.agg (encR e) := ⟨_, rfl⟩
  rw [← hAL] at e0 hAV hAVd ⊢
  simp only [encR] at e0
  simp only [hsC]
  simp (disch := omega) only [go_sem, seval, Int.toNat_natCast, e0]
  refine aIf.intro (fun h5 => ?_) (fun h5 => ?_) <;> simp (disch := omega) only [go_sem, seval]
  · rw [hpl, if_pos h5]; rfl
  rw [if_neg h5] at hpl
  obtain ⟨m0, hm0⟩ : ∃ m0, m0 = numN s.heirs s.members := ⟨_, rfl⟩
  rw [← hm0] at hpl hnum e0 h5 ⊢
  have hbm := fun {m : Nat} (hm : m < N) => tabE_bound hR (hN ▸ hm : m < 2 ^ s.heirs.length)
  have hb0 := hbm (hN ▸ hnum)
  refine awp_loopS (α := PwS) [1, 2, 3, 6, 7, 8] (fun w => [(1, .ptr (some (h.length, 0))), (2, .ptr (some (h.length + 1, 0))), (3, .int .i64 (tabF (tabE s) m0).1), (6, .ptr (some (h.length + 2, 0))), (7, .ptr (some (h.length + 3, 0))), (8, .ptr (some (h.length + 4, 0)))]) (fun w => h ++ w.j)
    (fun w => PlJ s h w.m w.l w.own w.j ∧ (∀ k, NLj k w.j) ∧ w.m < N ∧ 0 ≤ (tabF (tabE s) w.m).1 ∧ pathF s (tabF (tabE s) m0).2 m0 = w.l ++ pathF s (tabF (tabE s) w.m).2 w.m ∧ w.l.length + (tabF (tabE s) w.m).2 = (tabF (tabE s) m0).2)
    (fun w => (tabF (tabE s) w.m).2) ⟨m0, [], .full, _⟩ ?_ rfl ⟨⟨rfl, rfl, by rw [hm0]; rfl, by rw [hAVd]; rfl, rfl, trivial⟩, fun k i ob _ e => ?_, hN ▸ hnum, by simp only; omega, rfl, by simp⟩ Ty.mixed (by kernel_rfl) ?_
  · simp (disch := omega) only [go_sem, seval]
  · intro st pe li e'
    subst e'
    have := (List.getElem?_eq_some_iff.1 e).1
    match i, this with
    | 0, _ => simp at e
    | 1, _ => simp at e
    | 2, _ => simp at e
    | 3, _ => simp at e
    | 4, _ => simp at e
  rintro ⟨m, l, own, j⟩ ⟨hj, hnl, hm, hp0, hpath, hlk⟩
  simp only at hj hnl hm hp0 hpath hlk ⊢
  have hm2 : m < 2 ^ s.heirs.length := hN ▸ hm
  have hbmm := hbm hm
  have jl := hj.len
  have g : ∀ {i ob}, j[i]? = some ob → ∀ k, (h ++ (j ++ k))[h.length + i]? = some ob := fun {i ob} e k => by rw [hget_add, List.getElem?_append_left (List.getElem?_eq_some_iff.1 e).1]; exact e
  have g0 : ∀ {i ob}, j[i]? = some ob → (h ++ j)[h.length + i]? = some ob := fun {i ob} e => by rw [hget_add]; exact e
  have e1 := hj.e1
  have e2 := hj.e2
  have e3 := hj.e3
  have e4 := hj.e4
  simp only [encR] at e4
  simp (disch := omega) only [go_sem, seval, e4]
  refine aIf.intro (fun h6 => ?_) (fun h6 => ?_) <;> simp (disch := omega) only [go_sem, seval]
  rotate_left
  · have hk0 : (tabF (tabE s) m).2 = 0 := by omega
    rw [hk0] at hpath
    have hpath2 : pathF s (tabF (tabE s) m0).2 m0 = l := by rw [hpath]; simp [pathF]
    refine AWP.keep [2, 3] (aCode_ok Ty.mixed _ _ _ _ (by kernel_rfl) ?_)
    have s1 : j.set 1 (.row [.sl (l.map encSg) own] 29) = j := hset_same e1
    simp (disch := omega) only [go_sem, seval, e1, s1, loose_Sg]
    refine ⟨rb_Sg _ _, ?_⟩
    rw [hpl, ← hpath2]; rfl
  have hk : 0 < (tabF (tabE s) m).2 := by omega
  obtain ⟨wf, hwf⟩ := lead_way hR hm2 hp0 hk
  simp (disch := omega) only [go_sem, seval, e4]
  refine ACalls.detH (pways_calls Γ (h.length + 2) m _) ?_
  obtain ⟨k, hk2⟩ : ∃ k, k = j.length + 2 := ⟨_, rfl⟩
  obtain ⟨j5, hj5⟩ : ∃ j5, j5 = j ++ [AObj.row [.ptr (some (h.length + 2, 0))] 92, .row [.int .u64 m] 58] := ⟨_, rfl⟩
  have hlen5 : (h ++ j5).length = h.length + k := by rw [hj5, hk2]; simp
  have hjl : (h ++ j).length = h.length + j.length := by simp
  rw [List.append_assoc, ← hj5, hjl]
  have hpl5 : PlJ s h m l own j5 := hj5 ▸ hj.app _
  have hk5 : 5 ≤ k := by omega
  have hkj : j5.length = k := by rw [hj5, hk2]; simp
  simp (disch := omega) only [go_sem, seval]
  refine AWP.keep [1, 2, 3, 6, 7, 8, 35] ?_
  simp (disch := omega) only [go_sem, seval]
  refine awp_rangeFuncI rfl fun li hli => ?_
  rw [hlen5]
  refine (ways1_calls Γ s m (h.length + 2) (h.length + j.length) (h.length + j.length + 1) (h.length + k) hO hm2 92 58
    (fun don hx => ∃ j', hx = h ++ j' ∧ PlJ s h m l own j' ∧ j'[k]? = some (.loop .ready none li) ∧ NLj k j' ∧ j'[j.length]? = some (.row [.ptr (some (h.length + 2, 0))] 92) ∧ j'[j.length + 1]? = some (.row [.int .u64 m] 58) ∧ ∀ u ∈ don, leadW s m u = false)
    (fun hx => ∃ j' own', hx = h ++ j' ∧ PlJ s h wf.t (l ++ [wf.x]) own' j' ∧ j'[k]? = some (.loop .done (some (.exit 2)) li) ∧ NLj k j') ?_ ?_ ?_ _
    ⟨j5 ++ [.loop .ready none li], by simp, hpl5.app _, by rw [← hkj]; simp, ?_, by rw [hj5]; simp, by rw [hj5]; simp, by simp⟩).mono ?_
  · rintro don hx ⟨j', rfl, q1, q2, q3, q4, q5, q6⟩
    refine ⟨by rw [hget_add]; exact q1.e2, by rw [hget_add]; exact q4, by rw [Nat.add_assoc, hget_add]; exact q5⟩
  · rintro don hx cs ⟨j', rfl, q1, q2, q3, q4, q5, q6⟩
    have f : ∀ {i ob}, j'[i]? = some ob → (j' ++ [AObj.row cs 50])[i]? = some ob := fun {i ob} e => by rw [List.getElem?_append_left (List.getElem?_eq_some_iff.1 e).1]; exact e
    exact ⟨j' ++ [.row cs 50], by simp, q1.app _, f q2, q3.app _ _, f q4, f q5, q6⟩
  · rintro don w r hx hdw ⟨j', rfl, q1, q2, q3, q4, q5, q6⟩
    have hwm : w ∈ wayL s m := by rw [hdw]; simp
    obtain ⟨hwt, hwc0, hwc1⟩ := wayL_facts hR hm2 hwm
    have hwtN : w.t < N := hN.symm ▸ hwt
    have hbw := hbm hwtN
    have eA := hAV hwtN
    simp only [encR] at eA
    have q1l := q1.len
    have kl : k < j'.length := (List.getElem?_eq_some_iff.1 q2).1
    have f : ∀ {i ob}, j'[i]? = some ob → ∀ X, (j' ++ X)[i]? = some ob := fun {i ob} e X => by rw [List.getElem?_append_left (List.getElem?_eq_some_iff.1 e).1]; exact e
    have fk : ∀ {i ob}, i ≠ k → j'[i]? = some ob → ∀ X o, ((j' ++ X).set k o)[i]? = some ob := fun {i ob} hi e X o => by rw [List.getElem?_set_ne (Ne.symm hi)]; exact f e X
    refine ayield_W hli (by rw [hget_add]; exact q2) rfl rfl Ty.mixed (by kernel_rfl) ?_
    rw [encWy]
    simp (disch := omega) only [go_sem, seval, hget_add]
    refine ⟨f q2 _, ?_⟩
    obtain ⟨j7, hj7⟩ : ∃ j7 : AH, j7 = (j' ++ [AObj.row [.int .i64 w.x.kind, .int .i64 w.x.person, .int .u64 w.t, .int .i64 w.c] 72]).set k (.loop .busy none li) := ⟨_, rfl⟩
    have p7 : PlJ s h m l own j7 := hj7 ▸ (q1.app _).set hk5 (f q2 _) (by simp)
    have l7 : j7.length = j'.length + 1 := by rw [hj7]; simp
    have L7 : j7[k]? = some (.loop .busy none li) := by rw [hj7, List.getElem?_set_self (by simp; omega)]
    have N7 : NLj k j7 := hj7 ▸ (q3.app _ _).set _
    have A7 : j7[j.length]? = some (.row [.ptr (some (h.length + 2, 0))] 92) := by rw [hj7]; exact fk (by omega) q4 _ _
    have B7 : j7[j.length + 1]? = some (.row [.int .u64 m] 58) := by rw [hj7]; exact fk (by omega) q5 _ _
    have W7 : j7[j'.length]? = some (.row [.int .i64 w.x.kind, .int .i64 w.x.person, .int .u64 w.t, .int .i64 w.c] 72) := by rw [hj7, List.getElem?_set_ne (by omega)]; simp
    rw [← hj7]
    have g3 := p7.e3
    rw [hAVd] at g3
    refine aCode_ok Ty.mixed _ _ _ _ (by kernel_rfl) ?_
    simp (disch := omega) only [go_sem, seval, g3, W7, Int.toNat_natCast, eA]
    have f7 : ∀ {i ob}, j7[i]? = some ob → ∀ X, (j7 ++ X)[i]? = some ob := fun {i ob} e X => by rw [List.getElem?_append_left (List.getElem?_eq_some_iff.1 e).1]; exact e
    have x4 := p7.e4
    simp only [encR] at x4
    have x4 := f7 x4
    have x1 := f7 p7.e1
    have xw := f7 W7
    have hlead : leadW s m w = (decide (0 ≤ (tabF (tabE s) w.t).1) && decide ((tabF (tabE s) w.t).1 + w.c = (tabF (tabE s) m).1) && decide ((tabF (tabE s) w.t).2 + 1 = (tabF (tabE s) m).2)) := rfl
    have go : leadW s m w = false → ∃ j', h ++ List.set (j7 ++ [AObj.row [.int .u64 w.t, .int .i64 (tabF (tabE s) w.t).1, .int .i64 (tabF (tabE s) w.t).2] 67]) k (.loop .ready none li) = h ++ j' ∧ PlJ s h m l own j' ∧ j'[k]? = some (.loop .ready none li) ∧ NLj k j' ∧ j'[j.length]? = some (.row [.ptr (some (h.length + 2, 0))] 92) ∧ j'[j.length + 1]? = some (.row [.int .u64 m] 58) ∧ ∀ u ∈ don ++ [w], leadW s m u = false := fun e => by
      refine ⟨_, rfl, (p7.app _).set hk5 (f7 L7 _) (by simp), List.getElem?_set_self (by simp; omega), (N7.app _ _).set _, ?_, ?_, fun u hu => ?_⟩
      · rw [List.getElem?_set_ne (by omega)]; exact f7 A7 _
      · rw [List.getElem?_set_ne (by omega)]; exact f7 B7 _
      · rcases List.mem_append.1 hu with hu | hu
        · exact q6 u hu
        · rw [List.mem_singleton] at hu; subst hu; exact e
    have y0 : ∀ (r : AObj) X, (j7 ++ r :: X)[j7.length]? = some r := fun r X => by simp
    refine aIf.intro (fun h7 => ?_) (fun h7 => ?_) <;> simp (disch := omega) only [go_sem, seval, y0, xw, x4]
    rotate_left
    · exact ⟨f7 L7 _, .inl (go (by rw [hlead, decide_eq_false h7]; rfl))⟩
    refine aIf.intro (fun h8 => ?_) (fun h8 => ?_) <;> simp (disch := omega) only [go_sem, seval, y0, xw, x4]
    rotate_left
    · exact ⟨f7 L7 _, .inl (go (by rw [hlead, decide_eq_false h8]; simp))⟩
    have h9c : ∀ b, (decide (((tabF (tabE s) w.t).2 : Int) + 1 = ((tabF (tabE s) m).2 : Int)) = b) → leadW s m w = b := fun b e => by
      rw [hlead, decide_eq_true h7, decide_eq_true h8, Bool.true_and, Bool.true_and, ← e]
      exact decide_eq_decide.2 (by omega)
    refine aIf.intro (fun h9 => ?_) (fun h9 => ?_) <;> simp (disch := omega) only [go_sem, seval, y0, xw, x1]
    rotate_left
    · exact ⟨f7 L7 _, .inl (go (h9c _ (decide_eq_false h9)))⟩
    have hww : wf = w := by
      have := List.find?_append (xs := don) (ys := w :: r) (p := leadW s m)
      rw [← hdw, hwf, List.find?_eq_none.2 (fun z hz => by rw [q6 z hz]; simp), List.find?_cons_of_pos (h9c _ (decide_eq_true h9))] at this
      simpa using this
    subst hww
    refine aAp_nl (by rw [List.length_map]; exact (p7.app _).ow) (rowsOK_Sg _) (rowsOK_Sg [wf.x]) (by simp; omega) (by simp; omega) fun j9 own9 ho9 hgr hnl9 => ?_
    have z0 := hgr.2 _ _ (f7 p7.e0 _) (by simp)
    have z1 := hgr.2 _ _ (x1 _) (by simp)
    have z2 := hgr.2 _ _ (f7 p7.e2 _) (by simp)
    have z3 := hgr.2 _ _ (f7 p7.e3 _) (by simp)
    have z4 := hgr.2 _ _ (x4 _) (by simp)
    have zL := hgr.2 _ _ (f7 L7 _) (by simp)
    have zy := hgr.2 _ _ (y0 (.row [.int .u64 wf.t, .int .i64 (tabF (tabE s) wf.t).1, .int .i64 (tabF (tabE s) wf.t).2] 67) []) (by simp)
    have l9 : k < j9.length := (List.getElem?_eq_some_iff.1 zL).1
    have l71 : j7.length ≠ 1 := by omega
    have l74 : j7.length ≠ 4 := by omega
    have zy1 : ∀ o, (j9.set 1 o)[j7.length]? = _ := fun o => (List.getElem?_set_ne (Ne.symm l71)).trans zy
    have z41 : ∀ o, (j9.set 1 o)[4]? = _ := fun o => (List.getElem?_set_ne (by decide)).trans z4
    simp (disch := omega) only [go_sem, seval, zy, z1, zy1, z41]
    have o1 := OwnAt.set (OwnAt.set ho9 z1 (by simp) (.row [.sl (l.map encSg ++ [.agg [.int .i64 wf.x.kind, .int .i64 wf.x.person]]) own9] 29)) (z41 _) (by simp) (.row [.int .u64 wf.t, .int .i64 (tabF (tabE s) wf.t).1, .int .i64 (tabF (tabE s) wf.t).2] 67)
    have o2 := OwnAt.set o1 (k := k) (by rw [List.getElem?_set_ne (by omega), List.getElem?_set_ne (by omega)]; exact zL) (by simp) (.loop .done (some (.exit 2)) li)
    refine ⟨by rw [List.getElem?_set_ne (by omega), List.getElem?_set_ne (by omega)]; exact zL, .inr ⟨_, own9, rfl, ⟨?_, ?_, ?_, ?_, ?_, ?_⟩, ?_, ?_⟩⟩
    · rw [List.getElem?_set_ne (by omega), List.getElem?_set_ne (by omega), List.getElem?_set_ne (by omega)]; exact z0
    · rw [List.getElem?_set_ne (by omega), List.getElem?_set_ne (by omega), List.getElem?_set_self (by omega), List.map_append]; rfl
    · rw [List.getElem?_set_ne (by omega), List.getElem?_set_ne (by omega), List.getElem?_set_ne (by omega)]; exact z2
    · rw [List.getElem?_set_ne (by omega), List.getElem?_set_ne (by omega), List.getElem?_set_ne (by omega)]; exact z3
    · rw [List.getElem?_set_ne (by omega), List.getElem?_set_self (by rw [List.length_set]; omega)]; rfl
    · simpa using o2
    · rw [List.getElem?_set_self (by rw [List.length_set, List.length_set]; exact l9)]
    · exact (((N7.app _ _).ext hnl9).setRow _ _).setRow _ _ |>.set _
  · intro i ob hi e
    intro st pe li' e'
    subst e'
    rw [List.getElem?_append] at e
    split at e
    · rw [hj5, List.getElem?_append] at e
      split at e
      · exact hnl (i + 1) i _ (by omega) e _ _ _ rfl
      · rename_i hge
        have : i - j.length < 2 := by have := (List.getElem?_eq_some_iff.1 e).1; simpa using this
        generalize i - j.length = q at *
        match q, this with
        | 0, _ => simp at e
        | 1, _ => simp at e
    · rename_i hge
      have := (List.getElem?_eq_some_iff.1 e).1
      simp only [List.length_singleton] at this
      omega
  · rintro _ hx (⟨j', rfl, q1, q2, q3, q4, q5, q6⟩ | ⟨j', own', rfl, q1, q2, q3⟩)
    · have := q6 wf (List.mem_of_find?_eq_some hwf)
      rw [List.find?_some hwf] at this
      cases this
    · refine ⟨.done, some (.exit 2), by rw [hget_add]; exact q2, fun i ob hne e => ?_, by simp, afterLoop_some Ty.mixed (by kernel_rfl) ?_⟩
      · rw [List.getElem?_append] at e
        split at e
        · rename_i hi
          left; rw [List.getElem?_append_left hi]; exact e
        · exact .inr (q3 _ ob (by omega) e)
      · obtain ⟨a1, a2, a3⟩ := leadW_iff.1 (List.find?_some hwf)
        have hwt := (wayL_facts hR hm2 (List.mem_of_find?_eq_some hwf)).1
        simp (disch := omega) only [go_sem, seval]
        refine roundS_next (⟨wf.t, l ++ [wf.x], own', j'.set k .dead⟩ : PwS) (by simp only; omega) ⟨q1.set hk5 q2 (by simp), fun k' i ob _ e => ?_, hN ▸ hwt, a1, ?_, by simp only [List.length_append, List.length_singleton]; omega⟩ ?_ rfl
        · by_cases hik : i = k
          · subst hik
            rw [List.getElem?_set_self (List.getElem?_eq_some_iff.1 q2).1] at e
            cases e
            exact fun _ _ _ => by simp
          · rw [List.getElem?_set_ne (Ne.symm hik)] at e
            exact q3 i ob hik e
        · simp only
          rw [hpath, ← a3, path_step hwf]; simp
        · simp (disch := omega) only [go_sem, seval]
end Go.Proofs.Ytaepdkjfaeepmaa
