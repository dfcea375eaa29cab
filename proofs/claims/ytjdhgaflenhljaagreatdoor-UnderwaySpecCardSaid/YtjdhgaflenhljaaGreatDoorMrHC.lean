/- Texts joined: UnP. No conditions. -/
import Derived.Test.YtjdhgaflenhljaaGreatDoorMrHB
import Derived.Test.YtjdhgaflenhljaaGreatDoorMrHA
/- Versions in force and who judges, plainly. No conditions. -/
set_option linter.unusedSimpArgs false
set_option linter.unusedVariables false
namespace Go.Proofs.YtjdhgaflenhljaaGreatDoor
open Go Go.Proofs Go.Abs

/-! ### The version in force -/
theorem fold_mem (t kn : Int) : ∀ (l : List Vs) (o : Option Vs) (y : Vs), l.foldl (fstep t kn) o = some y → o = some y ∨ (y ∈ l ∧ y.tm ≤ t ∧ y.kn ≤ kn)
  | [], o, y, h => .inl h
  | x :: r, o, y, h => by
    rw [List.foldl_cons] at h
    rcases fold_mem t kn r _ y h with h1 | ⟨h1, h2⟩
    · rw [fstep] at h1
      split at h1
      · rename_i hc
        cases h1
        exact .inr ⟨by simp, hc.1, hc.2.1⟩
      · exact .inl h1
    · exact .inr ⟨by simp [h1], h2⟩
theorem force_mem {t kn : Int} {l : List Vs} {y : Vs} (h : forceV t kn l = some y) : y ∈ l ∧ y.tm ≤ t ∧ y.kn ≤ kn := by
  rcases fold_mem t kn l none y h with h | h
  · cases h
  · exact h
theorem fold_max (t kn : Int) : ∀ (l : List Vs) (o : Option Vs), (∀ z, o = some z → ∃ y, l.foldl (fstep t kn) o = some y ∧ z.tm ≤ y.tm) ∧ ∀ x ∈ l, x.tm ≤ t → x.kn ≤ kn → ∃ y, l.foldl (fstep t kn) o = some y ∧ x.tm ≤ y.tm
  | [], o => ⟨fun z h => ⟨z, h, Int.le_refl _⟩, fun x h => (by cases h)⟩
  | x :: r, o => by
    obtain ⟨i1, i2⟩ := fold_max t kn r (fstep t kn o x)
    refine ⟨fun z hz => ?_, fun a ha h1 h2 => ?_⟩
    · rw [List.foldl_cons]
      by_cases hc : x.tm ≤ t ∧ x.kn ≤ kn ∧ leO o x = true
      · have he : fstep t kn o x = some x := by rw [fstep, if_pos hc]
        obtain ⟨y, h3, h4⟩ := i1 x he
        refine ⟨y, h3, ?_⟩
        have := hc.2.2
        rw [hz, leO] at this
        have := of_decide_eq_true this
        omega
      · have he : fstep t kn o x = o := by rw [fstep, if_neg hc]
        exact i1 z (he.trans hz)
    · rw [List.foldl_cons]
      rcases List.mem_cons.1 ha with rfl | ha
      · by_cases hc : leO o a = true
        · exact i1 a (by rw [fstep, if_pos ⟨h1, h2, hc⟩])
        · have he : fstep t kn o a = o := by rw [fstep, if_neg fun h => hc h.2.2]
          cases o with
          | none => exact absurd rfl hc
          | some z =>
            have hz : a.tm ≤ z.tm := by
              simp only [leO, decide_eq_true_eq] at hc
              omega
            obtain ⟨y, h3, h4⟩ := i1 z he
            exact ⟨y, h3, by omega⟩
      · exact i2 a ha h1 h2
theorem force_max {t kn : Int} {l : List Vs} {x : Vs} (hx : x ∈ l) (h1 : x.tm ≤ t) (h2 : x.kn ≤ kn) : ∃ y, forceV t kn l = some y ∧ x.tm ≤ y.tm := (fold_max t kn l none).2 x hx h1 h2
theorem fold_same {t1 t2 kn : Int} : ∀ (l : List Vs) (o : Option Vs), (∀ x ∈ l, x.kn ≤ kn → (x.tm ≤ t1 ↔ x.tm ≤ t2)) → l.foldl (fstep t1 kn) o = l.foldl (fstep t2 kn) o
  | [], _, _ => rfl
  | x :: r, o, h => by
    have he : fstep t1 kn o x = fstep t2 kn o x := by
      by_cases hk : x.kn ≤ kn
      · simp only [fstep, h x (by simp) hk]
      · rw [fstep, fstep, if_neg (fun e => hk e.2.1), if_neg (fun e => hk e.2.1)]
    rw [List.foldl_cons, List.foldl_cons, he]
    exact fold_same r _ fun x hx => h x (by simp [hx])
theorem force_same {t1 t2 kn : Int} {l : List Vs} (h : ∀ x ∈ l, x.kn ≤ kn → (x.tm ≤ t1 ↔ x.tm ≤ t2)) : forceV t1 kn l = forceV t2 kn l := fold_same l none h
theorem force_snoc (t kn : Int) (l : List Vs) (x : Vs) : forceV t kn (l ++ [x]) = fstep t kn (forceV t kn l) x := by simp [forceV]
/-! ### What inForce gathers -/
structure IfS where
  b : Int
  ks : List Int
  f : Int → Vs
def dV : Vs := ⟨0, 0, 0, ⟨[], [], [], [], .mk 0 0 0 [] [], 0⟩⟩
def ifStep (fr kn : Int) (s : IfS) (x : Vs) : IfS :=
  if kn < x.kn then s else if x.tm ≤ fr then (if x.tm < s.b then s else ⟨x.tm, So.addK fr s.ks, fun k => if k = fr then x else s.f k⟩) else ⟨s.b, So.addK x.tm s.ks, fun k => if k = x.tm then x else s.f k⟩
def inF (fr kn : Int) (l : List Vs) : IfS := l.foldl (ifStep fr kn) ⟨-1, [], fun _ => dV⟩
def bO : Option Vs → Int
  | none => -1
  | some y => y.tm
structure IfI (fr kn : Int) (l : List Vs) (s : IfS) : Prop where
  nd : s.ks.Nodup
  ge : ∀ k ∈ s.ks, fr ≤ k
  gt : ∀ k, fr < k → (k ∈ s.ks ↔ ∃ x ∈ l, x.kn ≤ kn ∧ x.tm = k)
  z : fr ∈ s.ks ↔ (forceV fr kn l).isSome
  f : ∀ k ∈ s.ks, forceV k kn l = some (s.f k)
  b : s.b = bO (forceV fr kn l)
  n : s.ks.length ≤ l.length
theorem IfI.ftm {fr kn : Int} {l : List Vs} {s : IfS} (I : IfI fr kn l s) {k : Int} (hk : k ∈ s.ks) (h : fr < k) : (s.f k).tm = k := by
  obtain ⟨x, h1, h2, h3⟩ := (I.gt k h).1 hk
  obtain ⟨y, h4, h5⟩ := force_max (t := k) h1 (by omega) h2
  rw [I.f k hk] at h4
  cases h4
  have := (force_mem (I.f k hk)).2.1
  omega
theorem addK_len (n : Int) (ks : List Int) : (So.addK n ks).length ≤ ks.length + 1 := by
  rw [So.addK]; split <;> simp
theorem fstep_no {t kn : Int} {o : Option Vs} {x : Vs} (h : ¬ (x.tm ≤ t ∧ x.kn ≤ kn ∧ leO o x = true)) : fstep t kn o x = o := by rw [fstep, if_neg h]
theorem fstep_yes {t kn : Int} {o : Option Vs} {x : Vs} (h : x.tm ≤ t ∧ x.kn ≤ kn ∧ leO o x = true) : fstep t kn o x = some x := by rw [fstep, if_pos h]
theorem IfI.step {fr kn : Int} {l : List Vs} {s : IfS} (I : IfI fr kn l s) (x : Vs) (h0 : 0 ≤ x.tm) : IfI fr kn (l ++ [x]) (ifStep fr kn s x) := by
  by_cases hk : kn < x.kn
  · rw [ifStep, if_pos hk]
    have hs : ∀ t, forceV t kn (l ++ [x]) = forceV t kn l := fun t => by rw [force_snoc, fstep_no fun e => by omega]
    refine ⟨I.nd, I.ge, fun k h => ?_, ?_, fun k h => ?_, ?_, ?_⟩
    · rw [I.gt k h]
      refine ⟨fun ⟨y, h1, h2⟩ => ⟨y, by simp [h1], h2⟩, fun ⟨y, h1, h2⟩ => ?_⟩
      rcases List.mem_append.1 h1 with h1 | h1
      · exact ⟨y, h1, h2⟩
      · rw [List.mem_singleton] at h1; subst h1; omega
    · rw [hs]; exact I.z
    · rw [hs]; exact I.f k h
    · rw [hs]; exact I.b
    · have := I.n; simp; omega
  rw [ifStep, if_neg hk]
  by_cases ht : x.tm ≤ fr
  · rw [if_pos ht]
    have hgt : ∀ k, fr < k → ((∃ y ∈ l, y.kn ≤ kn ∧ y.tm = k) ↔ ∃ y ∈ l ++ [x], y.kn ≤ kn ∧ y.tm = k) := fun k h => by
      refine ⟨fun ⟨y, h1, h2⟩ => ⟨y, by simp [h1], h2⟩, fun ⟨y, h1, h2⟩ => ?_⟩
      rcases List.mem_append.1 h1 with h1 | h1
      · exact ⟨y, h1, h2⟩
      · rw [List.mem_singleton] at h1; subst h1; omega
    have hlater : ∀ k ∈ s.ks, fr < k → forceV k kn (l ++ [x]) = some (s.f k) := fun k h1 h2 => by
      rw [force_snoc, I.f k h1, fstep_no]
      rintro ⟨_, _, e⟩
      have := of_decide_eq_true e
      rw [I.ftm h1 h2] at this
      omega
    by_cases hb : x.tm < s.b
    · rw [if_pos hb]
      have hfr : forceV fr kn (l ++ [x]) = forceV fr kn l := by
        rw [force_snoc, fstep_no]
        rintro ⟨_, _, e⟩
        have hb' := I.b
        cases ho : forceV fr kn l with
        | none => rw [ho, bO] at hb'; omega
        | some y =>
          rw [ho] at e hb'
          have := of_decide_eq_true e
          rw [bO] at hb'; omega
      refine ⟨I.nd, I.ge, fun k h => (I.gt k h).trans (hgt k h), ?_, fun k h => ?_, ?_, ?_⟩
      · rw [hfr]; exact I.z
      · rcases Int.lt_or_eq_of_le (I.ge k h) with h1 | rfl
        · exact hlater k h h1
        · rw [hfr]; exact I.f _ h
      · rw [hfr]; exact I.b
      · have := I.n; simp; omega
    · rw [if_neg hb]
      have hfr : forceV fr kn (l ++ [x]) = some x := by
        rw [force_snoc, fstep_yes]
        refine ⟨ht, by omega, ?_⟩
        have hb' := I.b
        cases ho : forceV fr kn l with
        | none => rfl
        | some y =>
          rw [ho, bO] at hb'
          exact decide_eq_true (by omega)
      refine ⟨So.addK_nodup I.nd _, fun k h => ?_, fun k h => ?_, ?_, fun k h => ?_, ?_, ?_⟩
      · rcases (So.mem_addK ..).1 h with h | rfl
        · exact I.ge k h
        · exact Int.le_refl _
      · rw [So.mem_addK, ← hgt k h, ← I.gt k h]
        exact ⟨fun e => e.elim id fun e => by omega, .inl⟩
      · rw [hfr, So.mem_addK]; simp
      · simp only
        by_cases h1 : k = fr
        · rw [if_pos h1, h1, hfr]
        · rw [if_neg h1]
          rcases (So.mem_addK ..).1 h with h | h
          · exact hlater k h (by have := I.ge k h; omega)
          · exact absurd h h1
      · rw [hfr]; rfl
      · have := addK_len fr s.ks
        have := I.n
        simp; omega
  · rw [if_neg ht]
    have hfr : forceV fr kn (l ++ [x]) = forceV fr kn l := by rw [force_snoc, fstep_no fun e => ht e.1]
    refine ⟨So.addK_nodup I.nd _, fun k h => ?_, fun k h => ?_, ?_, fun k h => ?_, ?_, ?_⟩
    · rcases (So.mem_addK ..).1 h with h | rfl
      · exact I.ge k h
      · omega
    · rw [So.mem_addK, I.gt k h]
      constructor
      · rintro (⟨y, h1, h2⟩ | rfl)
        · exact ⟨y, by simp [h1], h2⟩
        · exact ⟨x, by simp, by omega, rfl⟩
      · rintro ⟨y, h1, h2⟩
        rcases List.mem_append.1 h1 with h1 | h1
        · exact .inl ⟨y, h1, h2⟩
        · rw [List.mem_singleton] at h1; subst h1; exact .inr h2.2.symm
    · rw [hfr, So.mem_addK, ← I.z]
      exact ⟨fun e => e.elim id fun e => by omega, .inl⟩
    · simp only
      by_cases h1 : k = x.tm
      · rw [if_pos h1, force_snoc, fstep_yes]
        refine ⟨by omega, by omega, ?_⟩
        cases ho : forceV k kn l with
        | none => rfl
        | some y =>
          have := (force_mem ho).2.1
          exact decide_eq_true (by omega)
      · rw [if_neg h1]
        have h2 : k ∈ s.ks := ((So.mem_addK ..).1 h).resolve_right h1
        rw [force_snoc, I.f k h2, fstep_no]
        rintro ⟨e1, _, e⟩
        have := of_decide_eq_true e
        have h3 := I.ftm h2 (by omega)
        omega
    · rw [hfr]; exact I.b
    · have := addK_len x.tm s.ks
      have := I.n
      simp; omega
theorem ifI_fold (fr kn : Int) : ∀ (r don : List Vs) (s : IfS), (∀ x ∈ r, 0 ≤ x.tm) → IfI fr kn don s → IfI fr kn (don ++ r) (r.foldl (ifStep fr kn) s)
  | [], don, s, _, I => by simpa using I
  | x :: r, don, s, h, I => by
    have := ifI_fold fr kn r (don ++ [x]) _ (fun y hy => h y (by simp [hy])) (I.step x (h x (by simp)))
    simpa using this
theorem inF_I (fr kn : Int) (l : List Vs) (h : ∀ x ∈ l, 0 ≤ x.tm) : IfI fr kn l (inF fr kn l) := by
  have := ifI_fold fr kn l [] ⟨-1, [], fun _ => dV⟩ h ⟨.nil, fun _ h => by simp at h, fun k _ => by simp, by simp [forceV], fun _ h => by simp at h, rfl, by simp⟩
  rw [List.nil_append] at this
  exact this
theorem vsOk_tm : ∀ (l : List Vs) (last : Int), vsOk last l = true → (∀ x ∈ l, last < x.no ∧ 0 ≤ x.tm ∧ x.tm ≤ 1099511627775 ∧ checkF x.p = 0) ∧ l.Pairwise fun a b => a.no < b.no
  | [], _, _ => ⟨fun _ h => (by cases h), .nil⟩
  | x :: r, last, h => by
    rw [vsOk, Bool.and_eq_true, vOk] at h
    simp only [Bool.and_eq_true, decide_eq_true_eq] at h
    obtain ⟨i1, i2⟩ := vsOk_tm r _ h.2
    refine ⟨fun y hy => ?_, List.pairwise_cons.2 ⟨fun y hy => (i1 y hy).1, i2⟩⟩
    rcases List.mem_cons.1 hy with rfl | hy
    · exact ⟨by omega, by omega, by omega, h.1.2.2.2⟩
    · have := i1 y hy
      exact ⟨by omega, this.2⟩
structure VsG (l : List Vs) : Prop where
  n : l.length ≤ 256
  x : ∀ x ∈ l, -1 < x.no ∧ 0 ≤ x.tm ∧ x.tm ≤ 1099511627775 ∧ checkF x.p = 0
  inc : l.Pairwise fun a b => a.no < b.no
theorem chkAll_ok {l : List Vs} (h : chkAll l = 0) : VsG l := by
  rw [chkAll] at h
  split at h
  · cases h
  split at h
  · rename_i h1 h2
    obtain ⟨i1, i2⟩ := vsOk_tm l _ h2
    exact ⟨by omega, i1, i2⟩
  · cases h
/-! ### Who judges -/
def jdgF {α : Type} (mode : Int) (old : Bool) (l : List α) : List α := if mode = 1 then (if old then l.take 1 else []) else if mode = 2 then l.drop (l.length - 1) else l
def keysF (l : List Vs) (begun at_ kn : Int) : List Int := (So.sortI (inF begun kn l).ks).takeWhile fun k => decide (k ≤ at_)
def metV (l : List Vs) (begun at_ kn : Int) : List Vs := (keysF l begun at_ kn).map (inF begun kn l).f
def modeL (m : List Vs) : Int := (m.getLast?.map fun x => x.p.mode).getD 0
def judF (l : List Vs) (begun at_ kn : Int) : List Int × Int :=
  if metV l begun at_ kn = [] then ([], 0) else (So.sortI ((jdgF (modeL (metV l begun at_ kn)) (decide (begun ∈ keysF l begun at_ kn)) (metV l begun at_ kn)).map Vs.no), modeL (metV l begun at_ kn))
def judgesF (l : List Vs) (begun at_ kn : Int) : List Int × Int × Int :=
  if chkAll l ≠ 0 then ([], 0, chkAll l) else if timeF begun = true ∧ timeF at_ = true ∧ timeF kn = true ∧ begun ≤ at_ then ((judF l begun at_ kn).1, (judF l begun at_ kn).2, 0) else ([], 0, 1)
end Go.Proofs.YtjdhgaflenhljaaGreatDoor
