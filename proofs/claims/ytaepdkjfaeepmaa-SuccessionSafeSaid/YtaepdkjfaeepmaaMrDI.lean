/- Texts joined: SucZ, SucZa, SucZb. No conditions. -/
import Derived.Test.YtaepdkjfaeepmaaMrDH
/- The search's heap: what stands where, and the queue. No conditions. -/
set_option linter.unusedSimpArgs false
set_option linter.unusedVariables false
namespace Go.Proofs.Ytaepdkjfaeepmaa
open Go Go.Proofs Go.Abs

def allL (N : Nat) (A : Nat → Int × Nat) : List Qe := (List.range N).map fun m => (m, A m)
theorem allL_len (N : Nat) (A : Nat → Int × Nat) : (allL N A).length = N := by simp [allL]
theorem allL_at {N m : Nat} (A : Nat → Int × Nat) (h : m < N) : atL (allL N A) m = (m, A m) := by simp [atL, allL, h]
theorem allL_set {N m : Nat} (A : Nat → Int × Nat) (h : m < N) (x : Int × Nat) : (allL N A).set m (m, x) = allL N (setA A m x) := by
  refine List.ext_getElem? fun i => ?_
  rw [List.getElem?_set]
  by_cases e : m = i
  · subst e
    rw [if_pos rfl, if_pos (by rw [allL_len]; exact h)]
    simp [allL, setA, h]
  · rw [if_neg e]
    by_cases hi : i < N
    · simp [allL, setA, hi, Ne.symm e]
    · simp [allL, hi]
/-- What stands where. -/
abbrev Pl := Nat → Option AObj
def setP (F : Pl) (i : Nat) (ob : Option AObj) : Pl := fun j => if j = i then ob else F j
theorem setP_same (F : Pl) (i : Nat) (ob : Option AObj) : setP F i ob i = ob := by simp [setP]
theorem setP_ne (F : Pl) {i j : Nat} (ob : Option AObj) (h : j ≠ i) : setP F i ob j = F j := by simp [setP, h]
theorem setP_up {F : Pl} {i j : Nat} {ob : AObj} {ob' : Option AObj} (h : j ≠ i) (e : F j = some ob) : setP F i ob' j = some ob := (setP_ne _ _ h).trans e
structure Wd (F : Pl) (h0 : AH) (b iq qa : Nat) (Q : List Qe) (h : AH) : Prop where
  base : ∀ i, i < b → h[i]? = h0[i]?
  keep : ∀ i ob, F i = some ob → h[i]? = some ob ∧ i ≠ iq ∧ i ≠ qa ∧ b ≤ i
  q : QH h iq qa Q
  biq : b ≤ iq
  bqa : b ≤ qa
  b0 : h0.length = b
  hp : HeapN qle Q Q.length
  nl : ∀ (i : Nat) (ob : AObj), h[i]? = some ob → h0[i]? = some ob ∨ F i = some ob ∨ ∀ st pe li, ob ≠ .loop st pe li
theorem Wd.at {F : Pl} {h0 : AH} {b iq qa : Nat} {Q : List Qe} {h : AH} (H : Wd F h0 b iq qa Q h) {i : Nat} {ob : AObj} (e : F i = some ob) : h[i]? = some ob := (H.keep i ob e).1
theorem Wd.lt {F : Pl} {h0 : AH} {b iq qa : Nat} {Q : List Qe} {h : AH} (H : Wd F h0 b iq qa Q h) {i : Nat} {ob : AObj} (e : F i = some ob) : i < h.length := (List.getElem?_eq_some_iff.1 (H.at e)).1
theorem Wd.iqlt {F : Pl} {h0 : AH} {b iq qa : Nat} {Q : List Qe} {h : AH} (H : Wd F h0 b iq qa Q h) : iq < h.length := by
  obtain ⟨v, h1, _⟩ := H.q
  exact (List.getElem?_eq_some_iff.1 h1).1
theorem Wd.blen {F : Pl} {h0 : AH} {b iq qa : Nat} {Q : List Qe} {h : AH} (H : Wd F h0 b iq qa Q h) : b ≤ h.length := Nat.le_of_lt (Nat.lt_of_le_of_lt H.biq H.iqlt)
theorem Wd.step {F : Pl} {h0 : AH} {b iq qa qa' : Nat} {Q Q' : List Qe} {h h' : AH} (H : Wd F h0 b iq qa Q h) (s : QStep iq qa h qa' h') (q : QH h' iq qa' Q') (hp : HeapN qle Q' Q'.length) : Wd F h0 b iq qa' Q' h' where
  base := fun i hi => by
    rw [s.same i (Nat.lt_of_lt_of_le hi H.blen) (by have := H.biq; omega) (by have := H.bqa; omega)]
    exact H.base i hi
  keep := fun i ob e => by
    obtain ⟨k1, k2, k3, k4⟩ := H.keep i ob e
    have hl := H.lt e
    exact ⟨by rw [s.same i hl k2 k3]; exact k1, k2, by rcases s.new with e' | e' <;> omega, k4⟩
  q := q
  biq := H.biq
  bqa := by have := H.blen; have := H.bqa; rcases s.new with e' | e' <;> omega
  b0 := H.b0
  hp := hp
  nl := fun i ob e => by
    rcases s.rows i ob e with e | ⟨cs, T, rfl⟩
    · exact H.nl i ob e
    · exact .inr (.inr fun _ _ _ => by simp)
theorem Wd.app {F : Pl} {h0 : AH} {b iq qa : Nat} {Q : List Qe} {h : AH} (H : Wd F h0 b iq qa Q h) (cs : List AV) (T : TypeId) : Wd F h0 b iq qa Q (h ++ [.row cs T]) where
  base := fun i hi => by rw [List.getElem?_append_left (Nat.lt_of_lt_of_le hi H.blen)]; exact H.base i hi
  keep := fun i ob e => by
    obtain ⟨k1, k2⟩ := H.keep i ob e
    exact ⟨by rw [List.getElem?_append_left (H.lt e)]; exact k1, k2⟩
  q := H.q.app _
  biq := H.biq
  bqa := H.bqa
  b0 := H.b0
  hp := H.hp
  nl := fun i ob e => by
    rw [List.getElem?_append] at e
    split at e
    · exact H.nl i ob e
    · refine .inr (.inr fun st pe li e' => ?_)
      subst e'
      cases hk : i - h.length with
      | zero => rw [hk] at e; simp at e
      | succ k => rw [hk] at e; simp at e
/-- One more thing that stands where it stands. -/
theorem Wd.push {F : Pl} {h0 : AH} {b iq qa : Nat} {Q : List Qe} {h : AH} (H : Wd F h0 b iq qa Q h) (ob : AObj) (hqa : qa < h.length) : Wd (setP F h.length (some ob)) h0 b iq qa Q (h ++ [ob]) where
  base := fun i hi => by rw [List.getElem?_append_left (Nat.lt_of_lt_of_le hi H.blen)]; exact H.base i hi
  keep := fun i ob' e => by
    by_cases hi : i = h.length
    · subst hi
      rw [setP_same] at e
      cases e
      exact ⟨by simp, by have := H.iqlt; omega, by omega, H.blen⟩
    · rw [setP_ne _ _ hi] at e
      obtain ⟨k1, k2⟩ := H.keep i ob' e
      exact ⟨by rw [List.getElem?_append_left (H.lt e)]; exact k1, k2⟩
  q := H.q.app _
  biq := H.biq
  bqa := H.bqa
  b0 := H.b0
  hp := H.hp
  nl := fun i ob' e => by
    by_cases hi : i = h.length
    · subst hi
      rw [setP_same]
      right; left
      rw [← e]; simp
    · rw [setP_ne _ _ hi]
      rw [List.getElem?_append] at e
      split at e
      · exact H.nl i ob' e
      · rename_i hge
        exfalso
        obtain ⟨k, hk⟩ : ∃ k, i - h.length = k + 1 := ⟨i - h.length - 1, by omega⟩
        rw [hk] at e; simp at e
theorem QH.set {h : AH} {iq qa i : Nat} {Q : List Qe} (H : QH h iq qa Q) (h1 : i ≠ iq) (h2 : i ≠ qa) (ob : AObj) : QH (h.set i ob) iq qa Q := by
  obtain ⟨v, e1, e2, e3⟩ := H
  refine ⟨v, by rw [List.getElem?_set_ne h1]; exact e1, e2, e3.imp id ?_⟩
  rintro ⟨c, pad, k1, k2, k3⟩
  exact ⟨c, pad, k1, by rw [List.getElem?_set_ne h2]; exact k2, k3⟩
theorem Wd.set {F : Pl} {h0 : AH} {b iq qa : Nat} {Q : List Qe} {h : AH} (H : Wd F h0 b iq qa Q h) {i : Nat} {old : AObj} (e : F i = some old) (ob : AObj) : Wd (setP F i (some ob)) h0 b iq qa Q (h.set i ob) := by
  obtain ⟨k1, k2, k3, k4⟩ := H.keep i old e
  have hl := H.lt e
  exact {
    base := fun j hj => by rw [List.getElem?_set_ne (by omega)]; exact H.base j hj
    keep := fun j ob' e' => by
      by_cases hj : j = i
      · subst hj
        rw [setP_same] at e'
        cases e'
        exact ⟨by rw [List.getElem?_set_self hl], k2, k3, k4⟩
      · rw [setP_ne _ _ hj] at e'
        obtain ⟨l1, l2⟩ := H.keep j ob' e'
        exact ⟨by rw [List.getElem?_set_ne (Ne.symm hj)]; exact l1, l2⟩
    q := H.q.set k2 k3 ob
    biq := H.biq
    bqa := H.bqa
    b0 := H.b0
    hp := H.hp
    nl := fun j ob' e' => by
      by_cases hj : j = i
      · subst hj
        rw [List.getElem?_set_self hl] at e'
        cases e'
        rw [setP_same]
        exact .inr (.inl rfl)
      · rw [List.getElem?_set_ne (Ne.symm hj)] at e'
        rw [setP_ne _ _ hj]
        exact H.nl j ob' e' }
/-- Things that need no longer be spoken of. -/
theorem Wd.forget {F F' : Pl} {h0 : AH} {b iq qa : Nat} {Q : List Qe} {h : AH} (H : Wd F h0 b iq qa Q h) (h1 : ∀ i ob, F' i = some ob → F i = some ob) (h2 : ∀ i ob, F i = some ob → F' i = some ob ∨ ∀ st pe li, ob ≠ .loop st pe li) : Wd F' h0 b iq qa Q h where
  base := H.base
  keep := fun i ob e => H.keep i ob (h1 i ob e)
  q := H.q
  biq := H.biq
  bqa := H.bqa
  b0 := H.b0
  hp := H.hp
  nl := fun i ob e => by
    rcases H.nl i ob e with e | e | e
    · exact .inl e
    · rcases h2 i ob e with e | e
      · exact .inr (.inl e)
      · exact .inr (.inr e)
    · exact .inr (.inr e)
theorem Wd.perm {F F' : Pl} {h0 : AH} {b iq qa : Nat} {Q : List Qe} {h : AH} (H : Wd F h0 b iq qa Q h) (h1 : F' = F) : Wd F' h0 b iq qa Q h := h1 ▸ H
/-- What a range begun in one heap finds in a later one. -/
theorem Wd.range {F F' : Pl} {h0 : AH} {b iq qa qa' : Nat} {Q Q' : List Qe} {h h' : AH} {L : Nat} (H : Wd F h0 b iq qa Q h) (H' : Wd F' h0 b iq qa' Q' h') (hF : ∀ i ob, i ≠ L → F' i = some ob → F i = some ob) (i : Nat) (ob : AObj) (hi : i ≠ L) (e : h'[i]? = some ob) : h[i]? = some ob ∨ ∀ st pe li, ob ≠ .loop st pe li := by
  rcases H'.nl i ob e with e1 | e1 | e1
  · have := (List.getElem?_eq_some_iff.1 e1).1
    left
    rw [H.base i (by rw [← H.b0]; exact this)]; exact e1
  · exact .inl (H.at (hF i ob hi e1))
  · exact .inr e1
theorem Wd.real {F : Pl} {h0 : AH} {b iq qa : Nat} {Q : List Qe} {h : AH} (H : Wd F h0 b iq qa Q h) (hQ : 0 < Q.length) : qa < h.length := by
  obtain ⟨c, pad, _, h2, _⟩ := H.q.ms hQ
  exact (List.getElem?_eq_some_iff.1 h2).1
/-- A round's end: the loop's word as it was, the round's own row forgotten. -/
theorem Wd.back {P : Pl} {h0 : AH} {b iq qa : Nat} {Q : List Qe} {h : AH} {L iw : Nat} {lr lb : AObj} {cs : List AV} {T : TypeId} (H : Wd (setP (setP (setP P L (some lr)) iw (some (.row cs T))) L (some lb)) h0 b iq qa Q h) (hP : ∀ i ob, P i = some ob → i ≠ iw) : Wd (setP P L (some lr)) h0 b iq qa Q (h.set L lr) := by
  refine (H.set (setP_same ..) lr).forget (fun i ob e => ?_) (fun i ob e => ?_)
  · by_cases hi : i = L
    · subst hi; rw [setP_same] at e ⊢; exact e
    · have e' := e
      rw [setP_ne _ _ hi] at e'
      have := hP i ob e'
      exact setP_up hi (setP_up hi (setP_up this e))
  · by_cases hi : i = L
    · subst hi
      rw [setP_same] at e ⊢
      exact .inl e
    · rw [setP_ne _ _ hi, setP_ne _ _ hi] at e
      by_cases h2 : i = iw
      · subst h2
        rw [setP_same] at e
        cases e
        exact .inr fun _ _ _ => by simp
      · rw [setP_ne _ _ h2] at e
        exact .inl e
end Go.Proofs.Ytaepdkjfaeepmaa

/- The program's least: how it begins. No conditions. -/
set_option linter.unusedSimpArgs false
set_option linter.unusedVariables false
namespace Go.Proofs.Ytaepdkjfaeepmaa
open Go Go.Proofs Go.Abs

theorem ways_wayL (s : Es) (m : Nat) : (grOf s).ways m = (wayL s m).map fun w => (w.t, w.c) := by
  show List.filterMap _ _ = _
  rw [wayL, List.map_filterMap]
  congr 1
  funext x
  unfold fW
  split <;> rfl
def undN (A : Nat → Int × Nat) : Nat → Nat
  | 0 => 0
  | n + 1 => undN A n + if (A n).1 < 0 then 1 else 0
theorem undN_set (A : Nat → Int × Nat) (m : Nat) (x : Int × Nat) (hA : (A m).1 < 0) (hx : 0 ≤ x.1) : ∀ n, undN (setA A m x) n + (if m < n then 1 else 0) = undN A n
  | 0 => rfl
  | n + 1 => by
    have ih := undN_set A m x hA hx n
    rw [undN, undN]
    by_cases e : n = m
    · subst e
      rw [if_neg (by omega)] at ih
      have e1 : setA A n x n = x := by simp [setA]
      rw [e1, if_neg (by omega), if_pos hA, if_pos (by omega)]
      omega
    · have e1 : setA A m x n = A n := by simp [setA, e]
      rw [e1]
      by_cases h1 : m < n
      · rw [if_pos h1] at ih; rw [if_pos (show m < n + 1 by omega)]; omega
      · rw [if_neg h1] at ih; rw [if_neg (show ¬ m < n + 1 by omega)]; omega
theorem undN_le (A : Nat → Int × Nat) : ∀ n, undN A n ≤ n
  | 0 => Nat.le_refl _
  | n + 1 => by have := undN_le A n; rw [undN]; split <;> omega
theorem grow_of {h h' : AH} (hb : ∀ i, i < h.length → h'[i]? = h[i]?) (hl : h.length ≤ h'.length) : ∃ l, h' = h ++ l := by
  refine ⟨h'.drop h.length, ?_⟩
  refine List.ext_getElem? fun i => ?_
  rw [List.getElem?_append]
  split
  · rename_i hi; exact hb i hi
  · rename_i hi
    rw [List.getElem?_drop]
    congr 1; omega
/-- The table while it is being laid. -/
def iniL (N k : Nat) : List Qe := (List.range N).map fun m => if m < k then (m, -1, 0) else (0, 0, 0)
theorem iniL_len (N k : Nat) : (iniL N k).length = N := by simp [iniL]
theorem iniL_zero (N : Nat) : iniL N 0 = List.replicate N (0, 0, 0) := by
  refine List.ext_getElem? fun i => ?_
  by_cases hi : i < N
  · simp [iniL, hi]
  · simp [iniL, hi]
theorem iniL_all (N : Nat) : iniL N N = allL N fun _ => (-1, 0) := by
  refine List.ext_getElem? fun i => ?_
  by_cases hi : i < N
  · simp [iniL, allL, hi]
  · simp [iniL, allL, hi]
theorem iniL_set {N k : Nat} (h : k < N) : (iniL N k).set k (k, -1, 0) = iniL N (k + 1) := by
  refine List.ext_getElem? fun i => ?_
  rw [List.getElem?_set]
  by_cases e : k = i
  · subst e; simp [iniL, h]
  · rw [if_neg e]
    by_cases hi : i < N
    · simp only [iniL, List.getElem?_map, List.getElem?_range hi, Option.map_some, Option.some.injEq]
      by_cases h2 : i < k
      · rw [if_pos h2, if_pos (by omega)]
      · rw [if_neg h2, if_neg (by omega)]
    · simp [iniL, hi]
theorem zrow_R (n : Nat) : zrow n [.int .u64 0, .int .i64 0, .int .i64 0] = cR encR (iniL n 0) [] := by
  rw [iniL_zero, cR, List.append_nil, zrow]
  induction n with
  | zero => rfl
  | succ n ih => rw [List.replicate_succ, List.replicate_succ, List.flatten_cons, List.flatMap_cons, ih]; rfl
theorem shl_i64 (n : Nat) (h : n ≤ 10) : IntKind.i64.wrap (1 * 2 ^ min n 64) = ((2 ^ n : Nat) : Int) := by
  have h2 : 2 ^ n ≤ 1024 := Nat.pow_le_pow_right (n := 2) (by decide) h
  rw [show min n 64 = n by omega, Int.one_mul, show ((2 : Int) ^ n) = ((2 ^ n : Nat) : Int) by norm_cast]
  generalize (2 ^ n : Nat) = q at *
  rw [IntKind.wrap_i64]; omega
/-- What stands where in the search. -/
def F5 (b ih : Nat) (N : Nat) (L : List Qe) : Pl := setP (setP (setP (setP (fun _ => none) b (some (.row [.ptr (some (ih, 0))] 92))) (b + 1) (some (.row (cR encR L []) 67))) (b + 2) (some (.row [.ms (b + 1) 0 N N 3] 64))) (b + 4) (some (.row [.ptr (some (b + 3, 0))] 93))
theorem F5_set (b ih N : Nat) (L L' : List Qe) : setP (F5 b ih N L) (b + 1) (some (.row (cR encR L' []) 67)) = F5 b ih N L' := by
  funext j
  unfold F5 setP
  by_cases h1 : j = b + 1
  · subst h1; simp
  · by_cases h4 : j = b + 4
    · subst h4; simp
    · by_cases h2 : j = b + 2
      · subst h2; simp
      · simp [h1, h2, h4]
theorem F5_0 (b ih N : Nat) (L : List Qe) : F5 b ih N L b = some (.row [.ptr (some (ih, 0))] 92) := by simp [F5, setP]
theorem F5_1 (b ih N : Nat) (L : List Qe) : F5 b ih N L (b + 1) = some (.row (cR encR L []) 67) := by simp [F5, setP]
theorem F5_2 (b ih N : Nat) (L : List Qe) : F5 b ih N L (b + 2) = some (.row [.ms (b + 1) 0 N N 3] 64) := by simp [F5, setP]
theorem F5_4 (b ih N : Nat) (L : List Qe) : F5 b ih N L (b + 4) = some (.row [.ptr (some (b + 3, 0))] 93) := by simp [F5, setP]
theorem F5_inv {b ih N : Nat} {L : List Qe} {i : Nat} {ob : AObj} (e : F5 b ih N L i = some ob) : (i = b ∨ i = b + 1 ∨ i = b + 2 ∨ i = b + 4) ∧ ∃ cs T, ob = .row cs T := by
  unfold F5 setP at e
  split at e
  · cases e; exact ⟨by omega, _, _, rfl⟩
  · split at e
    · cases e; exact ⟨by omega, _, _, rfl⟩
    · split at e
      · cases e; exact ⟨by omega, _, _, rfl⟩
      · split at e
        · cases e; exact ⟨by omega, _, _, rfl⟩
        · cases e
theorem wd_first (h0 : AH) (ih N : Nat) : Wd (F5 h0.length ih N (iniL N 0)) h0 h0.length (h0.length + 3) (h0.length + 5) [] (h0 ++ [.row [.ptr (some (ih, 0))] 92, .row (cR encR (iniL N 0) []) 67, .row [.ms (h0.length + 1) 0 N N 3] 64, .row [.sl [] .full] 94, .row [.ptr (some (h0.length + 3, 0))] 93]) where
  base := fun i hi => List.getElem?_append_left hi
  keep := fun i ob e => by
    obtain ⟨h1, _⟩ := F5_inv e
    refine ⟨?_, by omega, by omega, by omega⟩
    rcases h1 with rfl | rfl | rfl | rfl
    · rw [F5_0] at e; rw [← e]; simp
    · rw [F5_1] at e; rw [← e]; simp
    · rw [F5_2] at e; rw [← e]; simp
    · rw [F5_4] at e; rw [← e]; simp
  q := ⟨.sl [] .full, by simp, by omega, .inl ⟨rfl, rfl⟩⟩
  biq := by omega
  bqa := by omega
  b0 := rfl
  hp := fun k h1 h2 => by simp at h2
  nl := fun i ob e => by
    rw [List.getElem?_append] at e
    split at e
    · exact .inl e
    · refine .inr (.inr fun st pe li e' => ?_)
      subst e'
      have : i - h0.length < 5 := by have := (List.getElem?_eq_some_iff.1 e).1; simpa using this
      generalize i - h0.length = k at *
      match k, this with
      | 0, _ => simp at e
      | 1, _ => simp at e
      | 2, _ => simp at e
      | 3, _ => simp at e
      | 4, _ => simp at e
/-- What the queue holds at the beginning. -/
def finQ (s : Es) (k : Nat) (Q : List Qe) : Prop := Q.length ≤ k ∧ ∀ e, e ∈ Q ↔ e.1 < k ∧ safeF s e.1 = true ∧ livF s e.1 = true ∧ e.2 = (0, 0)
theorem fin_dij {s : Es} {Q : List Qe} (h : finQ s (2 ^ s.heirs.length) Q) : Dij (grOf s) (fun _ => (-1, 0)) Q where
  done := fun m _ h1 => by simp at h1
  und := fun _ _ => rfl
  q := fun e he => by
    obtain ⟨h1, h2, h3, h4⟩ := (h.2 e).1 he
    obtain ⟨e1, e2⟩ := e
    simp only at h4 h1 h2 h3 ⊢
    subst h4
    exact ⟨h1, .fin h2 h3⟩
  fins := fun m hm _ h1 h2 => (h.2 _).2 ⟨hm, h1, h2, rfl⟩
  edges := fun m _ _ _ t p _ h1 => by simp at h1
/-- What is put into the queue for some of a state's ways. -/
def pushW (s : Es) (A : Nat → Int × Nat) (m : Nat) (c : Int) (n : Nat) (l : List Wy) : List Qe :=
  l.flatMap fun w => if 0 ≤ (A w.t).1 ∨ safeF s w.t = false then [] else ((wayL s w.t).filter fun u => decide (u.t = m)).map fun u => (w.t, c + u.c, n + 1)
theorem pushD_W (s : Es) (A : Nat → Int × Nat) (m : Nat) (c : Int) (n : Nat) : pushD (grOf s) A m c n = pushW s A m c n (wayL s m) := by
  unfold pushD pushW
  rw [ways_wayL, List.flatMap_map]
  congr 1
  funext w
  rw [ways_wayL, List.filter_map, List.map_map]
  rfl
theorem wayL_len {s : Es} (hs : HsOK s) (m : Nat) : (wayL s m).length ≤ 20 := by
  have h1 : (wayL s m).length ≤ (stagesL s).length := List.length_filterMap_le _ _
  have h2 : (stagesL s).length = s.heirs.length + s.heirs.length := by simp [stagesL]
  have := hs.h10
  omega
theorem wayL_facts {s : Es} (hR : EsR s) {m : Nat} (hm : m < 2 ^ s.heirs.length) {w : Wy} (hw : w ∈ wayL s m) : w.t < 2 ^ s.heirs.length ∧ 0 ≤ w.c ∧ w.c ≤ 1048576 := by
  obtain ⟨x, hx, e⟩ := List.mem_filterMap.1 hw
  unfold fW at e
  split at e
  · cases e
  · rename_i h
    cases e
    exact ⟨step_lt hm h, step_cost hR m x⟩
structure InS where
  k : Nat
  qa : Nat
  Q : List Qe
  h : AH
structure LpS where
  A : Nat → Int × Nat
  qa : Nat
  Q : List Qe
  h : AH
end Go.Proofs.Ytaepdkjfaeepmaa

/- The program's least. No conditions. -/
set_option linter.unusedSimpArgs false
set_option linter.unusedVariables false
namespace Go.Proofs.Ytaepdkjfaeepmaa
open Go Go.Proofs Go.Abs

set_option maxHeartbeats 8000000 in
set_option maxRecDepth 100000 in
theorem pleast_calls (Γ : Nat → Option (List AV)) (s : Es) (ih : Nat) (h0 : AH) (hs : HsOK s) (hR : EsR s) (hi : h0[ih]? = some (.row (hsC s) 61)) :
    ACalls Try.prog Γ 29 [.ptr (some (ih, 0))] h0 fun v h' => h' = h0 ∧ v = .sl ((allL (2 ^ s.heirs.length) (tabF (tabE s))).map fun e => .agg (encR e)) .free := by
  obtain ⟨N, hN⟩ : ∃ N, N = 2 ^ s.heirs.length := ⟨_, rfl⟩
  have hN1 : N ≤ 1024 := by rw [hN]; exact Nat.pow_le_pow_right (n := 2) (by decide) hs.h10
  have hNpos : 0 < N := by rw [hN]; exact Nat.pow_pos (by decide)
  have hil := (List.getElem?_eq_some_iff.1 hi).1
  have hshl := shl_i64 s.heirs.length hs.h10
  rw [← hN] at hshl
  have h10 := hs.h10
  have hg := grOf_good hR
  have cS := fun (m : Nat) (hm : m < N) h hi => psafe_calls Γ s m ih h hs hi (hN ▸ hm)
  have cE := fun (m : Nat) (hm : m < N) h hi => penough_calls Γ s m s.alive ih h hs hi (hN ▸ hm) hs.al
  have hi2 := hi
  simp only [hsC] at hi2
  have hi3 : ∀ k, (h0 ++ k)[ih]? = some (.row (hsC s) 61) := fun k => by rw [List.getElem?_append_left hil]; exact hi
  have hi4 := hi3
  simp only [hsC] at hi4
  rw [← hN]
  refine ACalls.endC ?_
  refine acalls_code (rs := [.tmp 2]) Try.func29 rfl rfl rfl rfl Ty.mixed (by kernel_rfl) ?_
  simp (disch := omega) only [go_sem, seval, hi4, encHs_len]
  rw [hshl]
  simp (disch := omega) only [go_sem, seval, Int.toNat_natCast]
  refine ⟨by omega, by omega, by omega, ?_⟩
  rw [zrow_R]
  refine awp_loopS (α := InS) [1, 3, 4, 19, 20, 21] (fun w => [(1, .ptr (some (h0.length, 0))), (3, .ptr (some (h0.length + 2, 0))), (4, .ptr (some (h0.length + 4, 0))), (19, .ms (h0.length + 1) 0 N N 3), (20, .int .i64 N), (21, .int .i64 w.k)]) (fun w => w.h)
    (fun w => Wd (F5 h0.length ih N (iniL N w.k)) h0 h0.length (h0.length + 3) w.qa w.Q w.h ∧ finQ s w.k w.Q ∧ w.k ≤ N) (fun w => N - w.k) ⟨0, h0.length + 5, [], _⟩ ?_ rfl ⟨wd_first h0 ih N, ⟨Nat.le_refl _, fun e => by simp⟩, Nat.zero_le _⟩ Ty.mixed (by kernel_rfl) ?_
  · simp (disch := omega) only [go_sem, seval]
  rintro ⟨k, qa, Q, h⟩ ⟨hw, hf, hk⟩
  simp only at hw hf hk ⊢
  simp (disch := omega) only [go_sem, seval]
  refine aIf.intro (fun h1 => ?_) (fun h1 => ?_) <;> simp (disch := omega) only [go_sem, seval]
  · have hkN : k < N := by omega
    have g2 := hw.at (F5_2 h0.length ih N (iniL N k))
    have g1 := hw.at (F5_1 h0.length ih N (iniL N k))
    have hwr : IntKind.u64.wrap (k : Int) = (k : Int) := IntWalk.u64_in _ ⟨by omega, by omega⟩
    have hlen : (cR encR (iniL N k) []).length = N * 3 := by rw [cR_len encR_len, iniL_len]; simp
    have hset := cR_set (enc := encR) encR_len (l := iniL N k) (i := k) (by rw [iniL_len]; exact hkN) (k, -1, 0) []
    rw [iniL_set hkN] at hset
    simp only [encR, Int.cast_ofNat_Int] at hset
    have hw1 := hw.set (F5_1 h0.length ih N (iniL N k)) (.row (cR encR (iniL N (k + 1)) []) 67)
    rw [F5_set] at hw1
    simp (disch := omega) only [go_sem, seval, g2, g1, Int.toNat_natCast, Nat.zero_add, hwr]
    refine ⟨by omega, by rw [hlen]; omega, ?_⟩
    rw [hset]
    obtain ⟨h2, hh2⟩ : ∃ h2, h2 = h.set (h0.length + 1) (.row (cR encR (iniL N (k + 1)) []) 67) := ⟨_, rfl⟩
    rw [← hh2] at hw1 ⊢
    have q0 := hw1.at (F5_0 h0.length ih N (iniL N (k + 1)))
    have q4 := hw1.at (F5_4 h0.length ih N (iniL N (k + 1)))
    have qi : h2[ih]? = some (.row (hsC s) 61) := by rw [hw1.base ih hil]; exact hi
    have qi2 := qi
    simp only [hsC] at qi2
    simp (disch := omega) only [go_sem, seval, q0]
    refine aCallF.intro (fun l => cS k hkN _ (by rw [List.getElem?_append_left (List.getElem?_eq_some_iff.1 qi).1]; exact qi)) ?_
    simp (disch := omega) only [go_sem, seval]
    have skip : (safeF s k && livF s k) = false → finQ s (k + 1) Q := fun e => ⟨Nat.le_succ_of_le hf.1, fun e' => by
      rw [hf.2]
      constructor
      · rintro ⟨a, c⟩; exact ⟨by omega, c⟩
      · rintro ⟨a, c, d, f⟩
        refine ⟨?_, c, d, f⟩
        rcases Nat.lt_or_eq_of_le (show e'.1 ≤ k by omega) with h | h
        · exact h
        · rw [h] at c d; rw [c, d] at e; cases e⟩
    cases hsf : safeF s k with
    | false =>
      simp (disch := omega) only [go_sem, seval]
      refine roundS_next (⟨k + 1, qa, Q, h2⟩ : InS) (by simp only; omega) ⟨hw1, skip (by rw [hsf]; rfl), by simp only; omega⟩ ?_ rfl
      simp (disch := omega) only [go_sem, seval]
    | true =>
    simp (disch := omega) only [go_sem, seval, q0, qi2]
    refine aCallF.intro (fun l => cE k hkN _ (by rw [List.getElem?_append_left (List.getElem?_eq_some_iff.1 qi).1]; exact qi)) ?_
    simp (disch := omega) only [go_sem, seval]
    have hen : enoughF s k s.alive = livF s k := rfl
    rw [hen]
    cases hlf : livF s k with
    | false =>
      simp (disch := omega) only [go_sem, seval]
      refine roundS_next (⟨k + 1, qa, Q, h2⟩ : InS) (by simp only; omega) ⟨hw1, skip (by rw [hsf, hlf]; rfl), by simp only; omega⟩ ?_ rfl
      simp (disch := omega) only [go_sem, seval]
    | true =>
      simp (disch := omega) only [go_sem, seval, q4]
      refine ACalls.then (hpush_calls Γ (h0.length + 3) qa Q (k, 0, 0) h2 hw1.q hw1.hp (by have := hf.1; omega)) ?_
      rintro _ h3 ⟨qa', Q', st, q', hp', hh'⟩
      simp (disch := omega) only [go_sem, seval]
      refine roundS_next (⟨k + 1, qa', Q', h3⟩ : InS) (by simp only; omega) ⟨hw1.step st q' hh', ⟨?_, fun e => ?_⟩, by simp only; omega⟩ ?_ rfl
      · have := hp'.length_eq
        have := hf.1
        simp only [List.length_append, List.length_singleton] at *
        omega
      · simp only
        rw [hp'.mem_iff, List.mem_append, List.mem_singleton, hf.2]
        constructor
        · rintro (⟨a, c⟩ | rfl)
          · exact ⟨by omega, c⟩
          · exact ⟨by simp, hsf, hlf, rfl⟩
        · rintro ⟨a, c, d, f⟩
          rcases Nat.lt_or_eq_of_le (show e.1 ≤ k by omega) with h | h
          · exact .inl ⟨h, c, d, f⟩
          · exact .inr (Prod.ext h f)
      · simp (disch := omega) only [go_sem, seval]
  have hkN : k = N := by omega
  subst hkN
  rw [iniL_all] at hw
  refine AWP.keep [1, 3, 4] (aCode_ok Ty.mixed _ _ _ _ (by kernel_rfl) ?_)
  simp (disch := omega) only [go_sem, seval]
  have hQ0 := hf.1
  have hD0 := fin_dij (hN ▸ hf)
  have hu0 := undN_le (fun _ => ((-1 : Int), 0)) k
  refine awp_loopS (α := LpS) [1, 3, 4] (fun w => [(1, .ptr (some (h0.length, 0))), (3, .ptr (some (h0.length + 2, 0))), (4, .ptr (some (h0.length + 4, 0)))]) (fun w => w.h)
    (fun w => Wd (F5 h0.length ih k (allL k w.A)) h0 h0.length (h0.length + 3) w.qa w.Q w.h ∧ Dij (grOf s) w.A w.Q ∧ w.Q.length + 401 * undN w.A k ≤ 1000000) (fun w => w.Q.length + 401 * undN w.A k) ⟨fun _ => (-1, 0), qa, Q, h⟩ ?_ rfl ⟨hw, hD0, by simp only; omega⟩ Ty.mixed (by kernel_rfl) ?_
  · simp (disch := omega) only [go_sem, seval]
  clear hw hf hk hD0 hQ0 hu0 h1
  rintro ⟨A, qa, Q, h⟩ ⟨hw, hD, hbd⟩
  simp only at hw hD hbd ⊢
  have g4 := hw.at (F5_4 h0.length ih k (allL k A))
  obtain ⟨v, hv1, hv2, hv3⟩ := hw.q
  simp (disch := omega) only [go_sem, seval, g4, hv1]
  have cl : ∀ {R : AV → AH → Prop}, R (.int .i64 Q.length) h → ACalls Try.prog Γ 48 [v] h R := fun hRR => by
    rcases hv3 with ⟨rfl, rfl⟩ | ⟨c, pad, rfl, _⟩
    · exact ACalls.det (qlen0_calls Γ _ h) hRR
    · exact ACalls.det (qlen_calls Γ qa Q.length c h) hRR
  refine cl ?_
  simp (disch := omega) only [go_sem, seval]
  refine aIf.intro (fun h1 => ?_) (fun h1 => ?_) <;> simp (disch := omega) only [go_sem, seval]
  rotate_left
  · have hQ0 : Q = [] := List.length_eq_zero_iff.1 (by omega)
    subst hQ0
    have g2 := hw.at (F5_2 h0.length ih k (allL k A))
    have g1 := hw.at (F5_1 h0.length ih k (allL k A))
    have hfin : allL k A = allL k (tabF (tabE s)) := by
      unfold allL
      refine List.map_congr_left fun m hm => ?_
      have hm := List.mem_range.1 hm
      rw [hN] at hm
      rw [(hD.ends hg (show m < (grOf s).N from hm)).unique (tabE_right hR hm)]
    refine AWP.keep [3] (aCode_ok Ty.mixed _ _ _ _ (by kernel_rfl) ?_)
    simp (disch := omega) only [go_sem, seval, g2]
    have hfz := fz_C (enc := encR) (i := h0.length + 1) (c := k) (l := allL k A) (pad := []) encR_len (by decide) (by decide) (by rw [allL_len]; simp) (by simp) encR_agg
    rw [allL_len] at hfz
    refine ⟨grow_of hw.base hw.blen, .inr ⟨1, _, _, g1, ?_, ?_⟩⟩
    · rw [hfz, loose, looseL_maps _ (fun _ => rfl)]
      refine .sl' fun r hr => ?_
      obtain ⟨x, _, rfl⟩ := List.mem_map.1 hr
      exact of_eq_true (by rw [encR]; simp (disch := omega) only [go_sem, seval])
    · rw [hfz, loose, looseL_maps _ (fun _ => rfl), hfin]
  have hQpos : 0 < Q.length := by omega
  have hreal := hw.real hQpos
  simp (disch := omega) only [go_sem, seval, g4]
  refine ACalls.then (hpop_calls Γ (h0.length + 3) qa Q h hw.q hw.hp (by omega) hQpos) ?_
  rintro _ h2 ⟨rfl, Q2, st, q2, hp2, hh2⟩
  have hw2 := hw.step st q2 hh2
  have hmin : ∀ e ∈ Q2, qle (atL Q 0) e := fun e he => by
    obtain ⟨i, hi, rfl⟩ := List.getElem_of_mem (hp2.mem_iff.1 (List.mem_cons_of_mem _ he))
    have := hw.hp.least qle_refl qle_trans i hi
    rwa [atL_get hi] at this
  have hD2 : Dij (grOf s) A (atL Q 0 :: Q2) := hD.mem fun e => hp2.mem_iff
  have hl2 : Q2.length + 1 = Q.length := by have := hp2.length_eq; simpa using this
  obtain ⟨⟨m, c, n⟩, hx⟩ : ∃ x, atL Q 0 = x := ⟨_, rfl⟩
  rw [hx] at hD2 hmin hp2 ⊢
  have hmN : m < k := by
    have h1 : m < 2 ^ s.heirs.length := (hD2.q _ (List.mem_cons_self ..)).1
    rw [hN]; exact h1
  have hx3 : (AV.agg (encR (m, c, n))) = .agg [.int .u64 m, .int .i64 c, .int .i64 n] := rfl
  obtain ⟨ix, hix⟩ : ∃ ix, ix = h2.length := ⟨_, rfl⟩
  obtain ⟨h3, hh3⟩ : ∃ h3 : AH, h3 = h2 ++ [.row (encR (m, c, n)) 67] := ⟨_, rfl⟩
  have hw3 := hw2.push (.row (encR (m, c, n)) 67) (Nat.lt_of_lt_of_le hreal st.len)
  rw [← hh3, ← hix] at hw3
  have i0 : h0.length ≠ ix := by have := hw2.lt (F5_0 h0.length ih k (allL k A)); omega
  have i1 : h0.length + 1 ≠ ix := by have := hw2.lt (F5_1 h0.length ih k (allL k A)); omega
  have i2 : h0.length + 2 ≠ ix := by have := hw2.lt (F5_2 h0.length ih k (allL k A)); omega
  have i4 : h0.length + 4 ≠ ix := by have := hw2.lt (F5_4 h0.length ih k (allL k A)); omega
  have f0 : ∀ A, setP (F5 h0.length ih k (allL k A)) ix (some (.row (encR (m, c, n)) 67)) h0.length = _ := fun A => (setP_ne _ _ i0).trans (F5_0 ..)
  have f1 : ∀ A, setP (F5 h0.length ih k (allL k A)) ix (some (.row (encR (m, c, n)) 67)) (h0.length + 1) = _ := fun A => (setP_ne _ _ i1).trans (F5_1 ..)
  have f2 : ∀ A, setP (F5 h0.length ih k (allL k A)) ix (some (.row (encR (m, c, n)) 67)) (h0.length + 2) = _ := fun A => (setP_ne _ _ i2).trans (F5_2 ..)
  have f4 : ∀ A, setP (F5 h0.length ih k (allL k A)) ix (some (.row (encR (m, c, n)) 67)) (h0.length + 4) = _ := fun A => (setP_ne _ _ i4).trans (F5_4 ..)
  have fx : ∀ A, setP (F5 h0.length ih k (allL k A)) ix (some (.row (encR (m, c, n)) 67)) ix = some (.row (encR (m, c, n)) 67) := fun A => setP_same ..
  have w1 := hw3.at (f1 A)
  have w2 := hw3.at (f2 A)
  have wx := hw3.at (fx A)
  have hla : m < (allL k A).length := by rw [allL_len]; exact hmN
  have d1 := encR_drop1 hla []
  rw [allL_at A hmN] at d1
  simp only [encR] at wx hh3
  rw [hx3]
  simp (disch := omega) only [go_sem, seval]
  rw [← hh3, ← hix]
  simp (disch := omega) only [go_sem, seval, w2, wx, w1, Int.toNat_natCast, Nat.zero_add, d1]
  refine ⟨by omega, ?_⟩
  refine aIf.intro (fun h5 => ?_) (fun h5 => ?_) <;> simp (disch := omega) only [go_sem, seval]
  · refine roundS_next (⟨A, qa, Q2, h3⟩ : LpS) (by simp only; omega) ⟨?_, hD2.skip h5, by simp only; omega⟩ ?_ rfl
    · simp only
      rw [hh3]; exact hw2.app _ _
    · simp (disch := omega) only [go_sem, seval]
  have hAm : (A m).1 < 0 := by omega
  have hD3 := hD2.take hg hAm hmin
  obtain ⟨A', hA'⟩ : ∃ A', A' = setA A m (c, n) := ⟨_, rfl⟩
  rw [← hA'] at hD3
  have hAm' : A' m = (c, n) := by rw [hA']; simp [setA]
  have hc0 : 0 ≤ c := (hD2.q _ (List.mem_cons_self ..)).2.pos hg
  have hmN2 : m < 2 ^ s.heirs.length := hN ▸ hmN
  have hRm : tabF (tabE s) m = (c, n) := by
    have := hD3.done m hmN2 (by rw [hAm']; exact hc0)
    rw [hAm'] at this
    exact (tabE_right hR hmN2).unique this
  have hbd2 := tabE_bound hR hmN2
  rw [hRm] at hbd2
  have hund := undN_set A m (c, n) hAm hc0 k
  rw [← hA', if_pos hmN] at hund
  have hset := cR_set (enc := encR) encR_len (l := allL k A) (i := m) hla (m, c, n) []
  rw [allL_set A hmN, ← hA'] at hset
  simp only [encR] at hset
  have hw4 := hw3.set (f1 A) (.row (cR encR (allL k A') []) 67)
  have hF4 : setP (setP (F5 h0.length ih k (allL k A)) ix (some (.row (encR (m, c, n)) 67))) (h0.length + 1) (some (.row (cR encR (allL k A') []) 67)) = setP (F5 h0.length ih k (allL k A')) ix (some (.row (encR (m, c, n)) 67)) := by
    rw [← F5_set h0.length ih k (allL k A) (allL k A')]
    funext j
    simp only [setP]
    by_cases e1 : j = h0.length + 1
    · subst e1; simp [i1]
    · simp [e1]
  rw [hF4] at hw4
  simp (disch := omega) only [go_sem, seval, w2, wx, w1, Int.toNat_natCast, Nat.zero_add, List.take_succ_cons, List.take_zero, List.length_cons]
  rw [hset]
  refine ⟨by omega, by rw [cR_len encR_len]; omega, ?_⟩
  obtain ⟨h4, hh4⟩ : ∃ h4, h4 = h3.set (h0.length + 1) (.row (cR encR (allL k A') []) 67) := ⟨_, rfl⟩
  rw [← hh4] at hw4 ⊢
  have hreal3 : qa < h3.length := by have := hw2.real; have := st.len; rw [hh3, List.length_append]; omega
  have hreal4 : qa < h4.length := by rw [hh4, List.length_set]; exact hreal3
  have x0 := hw4.at (f0 A')
  have xx := hw4.at (fx A')
  simp only [encR] at xx
  simp (disch := omega) only [go_sem, seval, x0, xx]
  refine ACalls.detH (pways_calls Γ ih m h4) ?_
  obtain ⟨a1, ha1⟩ : ∃ a1, a1 = h4.length := ⟨_, rfl⟩
  have hw5 := (hw4.push (.row [.ptr (some (ih, 0))] 92) hreal4).push (.row [.int .u64 m] 58) (by rw [List.length_append]; omega)
  have hh5 : h4 ++ [.row [.ptr (some (ih, 0))] 92] ++ [.row [.int .u64 m] 58] = h4 ++ [.row [.ptr (some (ih, 0))] 92, .row [.int .u64 m] 58] := by simp
  rw [hh5, List.length_append, List.length_singleton, ← ha1] at hw5
  rw [← ha1]
  obtain ⟨h5, hh5⟩ : ∃ h5, h5 = h4 ++ [.row [.ptr (some (ih, 0))] 92, .row [.int .u64 m] 58] := ⟨_, rfl⟩
  rw [← hh5] at hw5 ⊢
  have hl5 : h5.length = a1 + 2 := by rw [hh5, ha1]; simp
  simp (disch := omega) only [go_sem, seval]
  refine AWP.keep [1, 3, 4, 7, 75] ?_
  simp (disch := omega) only [go_sem, seval]
  refine awp_rangeFuncI rfl fun li hli => ?_
  rw [hl5]
  have hixa : a1 = ix + 1 := by rw [ha1, hh4, List.length_set, hh3, hix]; simp
  have hbix : h0.length + 4 < ix := by rw [hix]; exact hw2.lt (F5_4 h0.length ih k (allL k A))
  obtain ⟨P5, hP5⟩ : ∃ P5 : Pl, P5 = setP (setP (setP (F5 h0.length ih k (allL k A')) ix (some (.row (encR (m, c, n)) 67))) a1 (some (.row [.ptr (some (ih, 0))] 92))) (a1 + 1) (some (.row [.int .u64 m] 58)) := ⟨_, rfl⟩
  have p0 : P5 h0.length = some (.row [.ptr (some (ih, 0))] 92) := by rw [hP5]; exact setP_up (by omega) (setP_up (by omega) (f0 A'))
  have p1 : P5 (h0.length + 1) = some (.row (cR encR (allL k A') []) 67) := by rw [hP5]; exact setP_up (by omega) (setP_up (by omega) (f1 A'))
  have p2 : P5 (h0.length + 2) = some (.row [.ms (h0.length + 1) 0 k k 3] 64) := by rw [hP5]; exact setP_up (by omega) (setP_up (by omega) (f2 A'))
  have p4 : P5 (h0.length + 4) = some (.row [.ptr (some (h0.length + 3, 0))] 93) := by rw [hP5]; exact setP_up (by omega) (setP_up (by omega) (f4 A'))
  have px : P5 ix = some (.row (encR (m, c, n)) 67) := by rw [hP5]; exact setP_up (by omega) (setP_up (by omega) (fx A'))
  have pa : P5 a1 = some (.row [.ptr (some (ih, 0))] 92) := by rw [hP5]; exact setP_up (by omega) (setP_same ..)
  have pb : P5 (a1 + 1) = some (.row [.int .u64 m] 58) := by rw [hP5]; exact setP_same ..
  have pno : ∀ i ob, P5 i = some ob → (F5 h0.length ih k (allL k A')) i = some ob ∨ ∀ st pe li, ob ≠ .loop st pe li := fun i ob e => by
    rw [hP5] at e
    unfold setP at e
    split at e
    · cases e; exact .inr fun _ _ _ => by simp
    · split at e
      · cases e; exact .inr fun _ _ _ => by simp
      · split at e
        · cases e; exact .inr fun _ _ _ => by simp
        · exact .inl e
  have pin : ∀ i ob, (F5 h0.length ih k (allL k A')) i = some ob → P5 i = some ob := fun i ob e => by
    have := (F5_inv e).1
    rw [hP5]
    exact setP_up (by omega) (setP_up (by omega) (setP_up (by omega) e))
  rw [← hP5] at hw5
  clear hP5 f0 f1 f2 f4 fx
  have hreal5 : qa < h5.length := by rw [hl5, ha1]; omega
  have hw6 := hw5.push (.loop .ready none li) hreal5
  rw [hl5] at hw6
  have wl := wayL_len hs m
  refine (ways1_calls Γ s m ih a1 (a1 + 1) (a1 + 2) hs hmN2 92 58
    (fun don hx => ∃ qa' Q', Wd (setP P5 (a1 + 2) (some (.loop .ready none li))) h0 h0.length (h0.length + 3) qa' Q' hx ∧ qa' < hx.length ∧ (∀ e, e ∈ Q' ↔ e ∈ Q2 ∨ e ∈ pushW s A' m c n don) ∧ Q'.length ≤ Q2.length + 20 * don.length)
    (fun _ => False) ?_ ?_ ?_ _ ⟨qa, Q2, hw6, by rw [List.length_append]; omega, fun e => by simp [pushW], by simp⟩).mono ?_
  · rintro don hx ⟨qa', Q', hwx, _⟩
    refine ⟨?_, hwx.at (setP_up (by omega) pa), hwx.at (setP_up (by omega) pb)⟩
    rw [hwx.base ih hil]; exact hi
  · rintro don hx cs ⟨qa', Q', hwx, hr, rest⟩
    exact ⟨qa', Q', hwx.app _ _, by rw [List.length_append]; omega, rest⟩
  · rintro don w r hx hdw ⟨qa', Q', hwx, hre, hmem, hlen⟩
    have hwm : w ∈ wayL s m := by rw [hdw]; simp
    obtain ⟨hwt, hwc0, hwc1⟩ := wayL_facts hR hmN2 hwm
    have hwtN : w.t < k := hN.symm ▸ hwt
    have hdon : don.length + 1 ≤ 20 := by have := wl; rw [hdw] at this; simp at this; omega
    have push1 : pushW s A' m c n (don ++ [w]) = pushW s A' m c n don ++ (if 0 ≤ (A' w.t).1 ∨ safeF s w.t = false then [] else ((wayL s w.t).filter fun u => decide (u.t = m)).map fun u => (w.t, c + u.c, n + 1)) := by simp [pushW]
    have hLx : a1 + 2 < hx.length := hwx.lt (setP_same ..)
    obtain ⟨iw, hiw⟩ : ∃ iw, iw = hx.length := ⟨_, rfl⟩
    have hw7 := (hwx.push (.row (encWy w).cells 72) hre).set (i := a1 + 2) (setP_up (by omega) (setP_same ..)) (.loop .busy none li)
    obtain ⟨h7, hh7⟩ : ∃ h7, h7 = (hx ++ [AObj.row (encWy w).cells 72]).set (a1 + 2) (.loop .busy none li) := ⟨_, rfl⟩
    rw [← hh7, ← hiw] at hw7
    have hl7 : h7.length = iw + 1 := by rw [hh7, hiw]; simp
    have wL := hwx.at (setP_same ..)
    refine ayield_W hli wL rfl rfl Ty.mixed (by kernel_rfl) ?_
    have hP5lt : ∀ i ob, P5 i = some ob → i < a1 + 2 := fun i ob e => by have := hw5.lt e; omega
    have back : ∀ qa1 Q1 hy, Wd (setP (setP (setP P5 (a1 + 2) (some (.loop .ready none li))) iw (some (.row (encWy w).cells 72))) (a1 + 2) (some (.loop .busy none li))) h0 h0.length (h0.length + 3) qa1 Q1 hy →
        Wd (setP P5 (a1 + 2) (some (.loop .ready none li))) h0 h0.length (h0.length + 3) qa1 Q1 (hy.set (a1 + 2) (.loop .ready none li)) := fun qa1 Q1 hy H => by
      refine (H.set (setP_same ..) (.loop .ready none li)).forget (fun i ob e => ?_) (fun i ob e => ?_)
      · by_cases hi : i = a1 + 2
        · subst hi; rw [setP_same] at e ⊢; exact e
        · have e' := e
          rw [setP_ne _ _ hi] at e'
          have := hP5lt i ob e'
          exact setP_up hi (setP_up hi (setP_up (by omega) e))
      · by_cases hi : i = a1 + 2
        · subst hi
          rw [setP_same] at e ⊢
          exact .inl e
        · rw [setP_ne _ _ hi, setP_ne _ _ hi] at e
          by_cases h2 : i = iw
          · subst h2
            rw [setP_same] at e
            cases e
            exact .inr fun _ _ _ => by simp
          · rw [setP_ne _ _ h2] at e
            exact .inl e
    have up7 : ∀ {i ob}, P5 i = some ob → (setP (setP (setP P5 (a1 + 2) (some (.loop .ready none li))) iw (some (.row (encWy w).cells 72))) (a1 + 2) (some (.loop .busy none li))) i = some ob := fun {i ob} e => by
      have := hP5lt i ob e
      exact setP_up (by omega) (setP_up (by omega) (setP_up (by omega) e))
    have y0 := hw7.at (up7 p0)
    have y1 := hw7.at (up7 p1)
    have y2 := hw7.at (up7 p2)
    have y4 := hw7.at (up7 p4)
    have yx := hw7.at (up7 px)
    have yw := hw7.at (i := iw) (setP_up (by omega) (setP_same ..))
    have yL := hw7.at (setP_same ..)
    have yi : h7[ih]? = some (.row (hsC s) 61) := by rw [hw7.base ih hil]; exact hi
    have hqa7 : qa' < h7.length := by omega
    have dw := encR_drop1 (Q := allL k A') (i := w.t) (by rw [allL_len]; exact hwtN) []
    rw [allL_at A' hwtN] at dw
    simp only [encR] at yx
    simp only [encWy, AV.cells] at hh7 yw
    rw [encWy]
    simp (disch := omega) only [go_sem, seval]
    refine ⟨by rw [List.getElem?_append_left hLx]; exact wL, ?_⟩
    rw [← hh7, ← hiw]
    refine aCode_ok Ty.mixed _ _ _ _ (by kernel_rfl) ?_
    simp (disch := omega) only [go_sem, seval, y2, yw, y1, Int.toNat_natCast, Nat.zero_add, dw]
    refine ⟨by omega, ?_⟩
    have stay : (0 ≤ (A' w.t).1 ∨ safeF s w.t = false) → ∀ e, e ∈ Q' ↔ e ∈ Q2 ∨ e ∈ pushW s A' m c n (don ++ [w]) := fun hb e => by
      rw [push1, if_pos hb, List.append_nil]; exact hmem e
    refine aIf.intro (fun h8 => ?_) (fun h8 => ?_) <;> simp (disch := omega) only [go_sem, seval]
    · exact ⟨yL, .inl ⟨qa', Q', back _ _ _ hw7, by rw [List.length_set]; exact hqa7, stay (.inl h8), by rw [List.length_append]; omega⟩⟩
    simp (disch := omega) only [go_sem, seval, y0, yw]
    refine ACalls.det (cS w.t hwtN _ yi) ?_
    simp (disch := omega) only [go_sem, seval]
    cases hsw : safeF s w.t with
    | false =>
      simp (disch := omega) only [go_sem, seval]
      exact ⟨yL, .inl ⟨qa', Q', back _ _ _ hw7, by rw [List.length_set]; exact hqa7, stay (.inr hsw), by rw [List.length_append]; omega⟩⟩
    | true =>
    rw [if_neg (by rw [hsw]; simp; omega)] at push1
    simp (disch := omega) only [go_sem, seval, y0, yw]
    refine ACalls.detH (pways_calls Γ ih w.t h7) ?_
    obtain ⟨a2, ha2⟩ : ∃ a2, a2 = h7.length := ⟨_, rfl⟩
    have hw8 := (hw7.push (.row [.ptr (some (ih, 0))] 92) hqa7).push (.row [.int .u64 w.t] 58) (by rw [List.length_append]; omega)
    have hh8 : h7 ++ [.row [.ptr (some (ih, 0))] 92] ++ [.row [.int .u64 w.t] 58] = h7 ++ [.row [.ptr (some (ih, 0))] 92, .row [.int .u64 w.t] 58] := by simp
    rw [hh8, List.length_append, List.length_singleton, ← ha2] at hw8
    rw [← ha2]
    obtain ⟨h8, hh8⟩ : ∃ h8, h8 = h7 ++ [.row [.ptr (some (ih, 0))] 92, .row [.int .u64 w.t] 58] := ⟨_, rfl⟩
    rw [← hh8] at hw8 ⊢
    have hl8 : h8.length = a2 + 2 := by rw [hh8, ha2]; simp
    simp (disch := omega) only [go_sem, seval]
    refine AWP.keep [1, 3, 4, 7, 8, 94] ?_
    simp (disch := omega) only [go_sem, seval]
    refine awp_rangeFuncI rfl fun li2 hli2 => ?_
    rw [hl8]
    have hiwa : a2 = iw + 1 := by rw [ha2, hl7]
    have hF7lt : ∀ i ob, (setP (setP (setP P5 (a1 + 2) (some (.loop .ready none li))) iw (some (.row (encWy w).cells 72))) (a1 + 2) (some (.loop .busy none li))) i = some ob → i < a2 := fun i ob e => by rw [ha2]; exact hw7.lt e
    obtain ⟨F7, hF7⟩ : ∃ F7 : Pl, F7 = setP (setP (setP P5 (a1 + 2) (some (.loop .ready none li))) iw (some (.row (encWy w).cells 72))) (a1 + 2) (some (.loop .busy none li)) := ⟨_, rfl⟩
    have fw : F7 iw = some (.row (encWy w).cells 72) := by rw [hF7]; exact setP_up (by omega) (setP_same ..)
    have fL : F7 (a1 + 2) = some (.loop .busy none li) := by rw [hF7]; exact setP_same ..
    rw [← hF7] at hw7 hw8 hF7lt up7 back
    clear hF7
    obtain ⟨P8, hP8⟩ : ∃ P8 : Pl, P8 = setP (setP F7 a2 (some (.row [.ptr (some (ih, 0))] 92))) (a2 + 1) (some (.row [.int .u64 w.t] 58)) := ⟨_, rfl⟩
    have up8 : ∀ {i ob}, F7 i = some ob → P8 i = some ob := fun {i ob} e => by
      have := hF7lt i ob e
      rw [hP8]; exact setP_up (by omega) (setP_up (by omega) e)
    have ra : P8 a2 = some (.row [.ptr (some (ih, 0))] 92) := by rw [hP8]; exact setP_up (by omega) (setP_same ..)
    have rb : P8 (a2 + 1) = some (.row [.int .u64 w.t] 58) := by rw [hP8]; exact setP_same ..
    have rno : ∀ i ob, P8 i = some ob → F7 i = some ob ∨ ∀ st pe li, ob ≠ .loop st pe li := fun i ob e => by
      rw [hP8] at e
      unfold setP at e
      split at e
      · cases e; exact .inr fun _ _ _ => by simp
      · split at e
        · cases e; exact .inr fun _ _ _ => by simp
        · exact .inl e
    rw [← hP8] at hw8
    have hP8lt : ∀ i ob, P8 i = some ob → i < a2 + 2 := fun i ob e => by have := hw8.lt e; omega
    clear hP8
    have hreal8 : qa' < h8.length := by omega
    have hw9 := hw8.push (.loop .ready none li2) hreal8
    rw [hl8] at hw9
    have wl2 := wayL_len hs w.t
    refine (ways1_calls Γ s w.t ih a2 (a2 + 1) (a2 + 2) hs hwt 92 58
      (fun don2 hz => ∃ qa1 Q1, Wd (setP P8 (a2 + 2) (some (.loop .ready none li2))) h0 h0.length (h0.length + 3) qa1 Q1 hz ∧ qa1 < hz.length ∧ (∀ e, e ∈ Q1 ↔ e ∈ Q' ∨ e ∈ (don2.filter fun u => decide (u.t = m)).map fun u => (w.t, c + u.c, n + 1)) ∧ Q1.length ≤ Q'.length + don2.length)
      (fun _ => False) ?_ ?_ ?_ _ ⟨qa', Q', hw9, by rw [List.length_append]; omega, fun e => by simp, by simp⟩).mono ?_
    · rintro don2 hz ⟨qa1, Q1, hwz, _⟩
      refine ⟨?_, hwz.at (setP_up (by omega) ra), hwz.at (setP_up (by omega) rb)⟩
      rw [hwz.base ih hil]; exact hi
    · rintro don2 hz cs ⟨qa1, Q1, hwz, hr, rest⟩
      exact ⟨qa1, Q1, hwz.app _ _, by rw [List.length_append]; omega, rest⟩
    · rintro don2 u r2 hz hdu ⟨qa1, Q1, hwz, hrz, hmz, hlz⟩
      have hum : u ∈ wayL s w.t := by rw [hdu]; simp
      obtain ⟨hut, huc0, huc1⟩ := wayL_facts hR hwt hum
      have hdon2 : don2.length + 1 ≤ 20 := by have := wl2; rw [hdu] at this; simp at this; omega
      have hLz : a2 + 2 < hz.length := hwz.lt (setP_same ..)
      obtain ⟨iu, hiu⟩ : ∃ iu, iu = hz.length := ⟨_, rfl⟩
      have hwu := (hwz.push (.row (encWy u).cells 72) hrz).set (i := a2 + 2) (setP_up (by omega) (setP_same ..)) (.loop .busy none li2)
      obtain ⟨h9, hh9⟩ : ∃ h9, h9 = (hz ++ [AObj.row (encWy u).cells 72]).set (a2 + 2) (.loop .busy none li2) := ⟨_, rfl⟩
      rw [← hh9, ← hiu] at hwu
      have hl9 : h9.length = iu + 1 := by rw [hh9, hiu]; simp
      have zL := hwz.at (setP_same ..)
      have up9 : ∀ {i ob}, P8 i = some ob → (setP (setP (setP P8 (a2 + 2) (some (.loop .ready none li2))) iu (some (.row (encWy u).cells 72))) (a2 + 2) (some (.loop .busy none li2))) i = some ob := fun {i ob} e => by
        have := hP8lt i ob e
        exact setP_up (by omega) (setP_up (by omega) (setP_up (by omega) e))
      have z4 := hwu.at (up9 (up8 (up7 p4)))
      have zx := hwu.at (up9 (up8 (up7 px)))
      have zw := hwu.at (up9 (up8 fw))
      have zu := hwu.at (i := iu) (setP_up (by omega) (setP_same ..))
      have zB := hwu.at (setP_same ..)
      simp only [encR] at zx
      simp only [encWy, AV.cells] at hh9 zu zw
      refine ayield_W hli2 zL rfl rfl Ty.mixed (by kernel_rfl) ?_
      rw [encWy]
      simp (disch := omega) only [go_sem, seval]
      refine ⟨by rw [List.getElem?_append_left hLz]; exact zL, ?_⟩
      rw [← hh9, ← hiu]
      refine aCode_ok Ty.mixed _ _ _ _ (by kernel_rfl) ?_
      simp (disch := omega) only [go_sem, seval, zu, zx]
      refine aIf.intro (fun h9c => ?_) (fun h9c => ?_) <;> simp (disch := omega) only [go_sem, seval, zu, zx, z4, zw]
      · have hum2 : u.t = m := by omega
        have hpu := hpush_calls Γ (h0.length + 3) qa1 Q1 (w.t, c + u.c, n + 1) h9 hwu.q hwu.hp (by omega)
        simp only [encR, Int.natCast_add, Int.cast_ofNat_Int] at hpu
        refine ACalls.then hpu ?_
        rintro _ hy ⟨qa2, Q3, st2, q3, p3, hh3'⟩
        have hwy := hwu.step st2 q3 hh3'
        have hl3 : Q3.length = Q1.length + 1 := by have := p3.length_eq; simpa using this
        simp (disch := omega) only [go_sem, seval]
        refine ⟨hwy.at (setP_same ..), .inl ⟨qa2, Q3, hwy.back (fun i ob e => by have := hP8lt i ob e; omega), by rw [List.length_set]; exact hwy.real (by omega), fun e => ?_, by rw [List.length_append, List.length_singleton]; omega⟩⟩
        rw [p3.mem_iff, List.mem_append, hmz, List.filter_append, List.filter_cons_of_pos (by simp [hum2]), List.filter_nil, List.map_append, List.mem_append, or_assoc]
        rfl
      · have hum2 : ¬ u.t = m := by omega
        refine ⟨zB, .inl ⟨qa1, Q1, hwu.back (fun i ob e => by have := hP8lt i ob e; omega), by rw [List.length_set]; omega, fun e => ?_, by rw [List.length_append]; omega⟩⟩
        rw [List.filter_append, List.filter_cons_of_neg (by simp [hum2]), List.filter_nil, List.append_nil]
        exact hmz e
    · rintro _ hz (⟨qa1, Q1, hwz, hrz, hmz, hlz⟩ | hf)
      · refine ⟨.ready, none, hwz.at (setP_same ..), hw8.range hwz fun i ob hne e => by rwa [setP_ne _ _ hne] at e, by simp, ?_⟩
        simp (disch := omega) only [go_sem, seval]
        have hwz2 := (hwz.set (setP_same ..) .dead).forget (F' := F7) (fun i ob e => by
          have := hF7lt i ob e
          exact setP_up (by omega) (setP_up (by omega) (up8 e))) (fun i ob e => by
          unfold setP at e
          split at e
          · cases e; exact .inr fun _ _ _ => by simp
          · exact rno i ob e)
        refine ⟨hwz2.at fL, .inl ⟨qa1, Q1, back _ _ _ hwz2, by rw [List.length_set, List.length_set]; exact hrz, fun e => ?_, by rw [List.length_append, List.length_singleton]; omega⟩⟩
        rw [push1, List.mem_append, hmz, hmem, or_assoc]
      · exact hf.elim
  · rintro _ hx (⟨qa', Q', hwx, hre, hmem, hlen⟩ | hf)
    · refine ⟨.ready, none, hwx.at (setP_same ..), hw5.range hwx fun i ob hne e => by rwa [setP_ne _ _ hne] at e, by simp, ?_⟩
      simp (disch := omega) only [go_sem, seval]
      have hwz := hwx.set (setP_same ..) .dead
      refine roundS_next (⟨A', qa', Q', hx.set (a1 + 2) .dead⟩ : LpS) (by simp only; omega) ⟨hwz.forget (fun i ob e => ?_) (fun i ob e => ?_), hD3.mem fun e => ?_, by simp only; omega⟩ ?_ rfl
      · have := (F5_inv e).1
        exact setP_up (by omega) (setP_up (by omega) (pin i ob e))
      · unfold setP at e
        split at e
        · cases e; exact .inr fun _ _ _ => by simp
        · exact pno i ob e
      · rw [hmem, pushD_W, List.mem_append]
      · simp (disch := omega) only [go_sem, seval]
    · exact hf.elim
end Go.Proofs.Ytaepdkjfaeepmaa
