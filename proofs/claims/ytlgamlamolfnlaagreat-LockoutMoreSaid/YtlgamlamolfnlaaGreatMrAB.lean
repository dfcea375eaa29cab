/- Texts joined: LokP, LokQ, LokA, LokB. No conditions. -/
import Derived.Test.YtlgamlamolfnlaaGreatMrQ
import Derived.Test.YtlgamlamolfnlaaGreatMrS
import Derived.Test.YtlgamlamolfnlaaGreatMrAA
/- Who could lock the others out, in plain lists. No conditions. -/
set_option linter.unusedSimpArgs false
set_option linter.unusedVariables false
namespace Go.Proofs.YtlgamlamolfnlaaGreat
open Go Go.Proofs Go.Abs

def locksF (g : Gt) (s : List Int) : Bool := permF g s && !permF g (wtF (pplF g) s)
def errL (g : Gt) (most : Int) : Int := if (smallR g false).2 = 0 then (if most < 0 ∨ 64 < most then 1 else 0) else (smallR g false).2
def topF (g : Gt) (most : Int) : Nat := min most.toNat (pplF g).length
def lockR (g : Gt) (most : Int) : List Int × Bool × Int := if errL g most = 0 then firstF (allUp (pplF g) (topF g most + 1)) (locksF g) else ([], false, errL g most)
def greatF (g : Gt) (most : Int) : List (List Int) := (chooseF (pplF g) (topF g most)).filter (permF g)
def apartF (a b : List Int) : Bool := decide (∀ x ∈ a, x ∉ b)
def safeF (sets : List (List Int)) : List (List Int) → Option (List (List Int))
  | [] => some []
  | c :: r => match sets.find? fun s => apartF s c with
    | none => none
    | some s => (safeF sets r).map (s :: ·)
def safeR (g : Gt) (most : Int) : List (List Int) × Bool × Int := if errL g most = 0 then (match safeF (setsF g) (greatF g most) with
    | some l => (l, true, 0)
    | none => ([], false, 0)) else ([], false, errL g most)
def okO (g : Gt) (c o : List Int) : Bool := incF o && decide (∀ x ∈ o, x ∈ pplF g) && apartF o c && permF g o
def accF (g : Gt) : List (List Int) → List (List Int) → Bool
  | [], [] => true
  | c :: r, o :: s => okO g c o && accF g r s
  | _, _ => false
def accR (g : Gt) (most : Int) (others : List (List Int)) : Bool × Int := if errL g most = 0 then (accF g (greatF g most) others, 0) else (false, errL g most)
structure ErrL (g : Gt) (most : Int) : Prop where
  e : errF g = 0
  c : checkF g = 0
  lv : allLeaves g ≤ 256
  n : (pplF g).length ≤ 12
  p : (pplF g).Pairwise (· < ·)
  s : (setsF g).length ≤ 256
  m : 0 ≤ most ∧ most ≤ 64
  r : smallR g false = (setsF g, 0)
theorem errL_ok {g : Gt} {most : Int} (h : errL g most = 0) : ErrL g most := by
  rw [errL] at h
  split at h
  · rename_i hs
    have hm : 0 ≤ most ∧ most ≤ 64 := by split at h <;> omega
    have h2 := hs
    rw [smallR] at h2
    split at h2
    · rename_i he
      obtain ⟨k1, k2, k3⟩ := errF_facts he
      split at h2
      · simp at h2
      · rename_i hl
        exact ⟨he, k1, k2, k3, ppl_lt k1, by show (minsF (pplF g) (fineF g false)).length ≤ 256; omega, hm, by rw [smallR, if_pos he, if_neg hl]; rfl⟩
    · rename_i he; exact absurd h2 he
  · rename_i hs; exact absurd h hs
theorem mem_choose (l : List Int) (k : Nat) (s : List Int) : s ∈ chooseF l k ↔ s.Sublist l ∧ s.length = k := by
  rw [← subs_choose, List.mem_filter, mem_subs]; simp
theorem mem_up (l : List Int) (m : Nat) (s : List Int) : s ∈ allUp l m ↔ s.Sublist l ∧ s.length < m := by
  rw [allUp, List.mem_flatMap]
  constructor
  · rintro ⟨k, h1, h2⟩
    rw [List.mem_range] at h1
    obtain ⟨h3, h4⟩ := (mem_choose l k s).1 h2
    exact ⟨h3, by omega⟩
  · rintro ⟨h1, h2⟩
    exact ⟨s.length, by rw [List.mem_range]; exact h2, (mem_choose l _ s).2 ⟨h1, rfl⟩⟩
/-- A part of a list lies in one of any size between. -/
theorem grow_sub : ∀ (l s : List Int) (k : Nat), s.Sublist l → s.length ≤ k → k ≤ l.length → ∃ c, c.Sublist l ∧ c.length = k ∧ s.Sublist c
  | [], s, k, h, h1, h2 => by
    have : k = 0 := by simpa using h2
    subst this
    exact ⟨[], .slnil, rfl, by rw [List.length_eq_zero_iff.1 (Nat.le_zero.1 h1)]; exact .slnil⟩
  | x :: l, s, k, h, h1, h2 => by
    cases h with
    | cons _ h =>
      by_cases hk : k ≤ l.length
      · obtain ⟨c, k1, k2, k3⟩ := grow_sub l s k h h1 hk
        exact ⟨c, .cons _ k1, k2, k3⟩
      · have : k = l.length + 1 := by simp at h2; omega
        exact ⟨x :: l, .refl _, by simp [this], .cons _ h⟩
    | cons_cons _ h =>
      rename_i s
      cases k with
      | zero => simp at h1
      | succ k =>
        obtain ⟨c, k1, k2, k3⟩ := grow_sub l s k h (by simpa using h1) (by simpa using h2)
        exact ⟨x :: c, .cons_cons _ k1, by simp [k2], .cons_cons _ k3⟩
theorem wt_anti (P : List Int) {s t : List Int} (h : ∀ x ∈ s, x ∈ t) : ∀ x ∈ wtF P t, x ∈ wtF P s := fun x hx => by
  rw [mem_wt] at hx ⊢; exact ⟨hx.1, fun k => hx.2 (h x k)⟩
/-- Whoever locks out still does with more. -/
theorem locks_more {g : Gt} (h : checkF g = 0) {s c : List Int} (hs : s.Sublist (pplF g)) (hc : c.Sublist (pplF g)) (hsc : ∀ x ∈ s, x ∈ c) (hl : locksF g s = true) : locksF g c = true := by
  simp only [locksF, Bool.and_eq_true, Bool.not_eq_true'] at hl ⊢
  refine ⟨hold_mono h s c hs hc hsc hl.1, ?_⟩
  cases hk : permF g (wtF (pplF g) c) with
  | false => rfl
  | true =>
    have := hold_mono h (wtF (pplF g) c) (wtF (pplF g) s) (wt_sub _ _) (wt_sub _ _) (wt_anti _ hsc) hk
    rw [holdP, hl.2] at this; cases this
/-- A great coalition locks out exactly if all smallest sets meet it. -/
theorem great_locks {g : Gt} (h : checkF g = 0) {c : List Int} (hc : c.Sublist (pplF g)) (hp : permF g c = true) : locksF g c = ((setsF g).find? fun s => apartF s c).isNone := by
  have hP := ppl_lt h
  rw [Bool.eq_iff_iff, Option.isNone_iff_eq_none, List.find?_eq_none, locksF, hp, Bool.true_and, Bool.not_eq_true']
  constructor
  · intro hw s hs ha
    simp only [apartF, decide_eq_true_eq] at ha
    have hm := (mem_mins hP s).1 hs
    have := hold_mono h s (wtF (pplF g) c) hm.1 (wt_sub _ _) (fun x hx => (mem_wt x _ _).2 ⟨hm.1.subset hx, ha x hx⟩) hm.2.1
    rw [holdP, hw] at this; cases this
  · intro hn
    cases hk : permF g (wtF (pplF g) c) with
    | false => rfl
    | true =>
      obtain ⟨s, h1, h2⟩ := minl_exists (fine := holdP g) hP (wt_sub (pplF g) c) hk
      have := hn s ((mem_mins hP s).2 h1)
      simp only [apartF, decide_eq_true_eq] at this
      exact absurd (fun x hx => ((mem_wt x _ _).1 (h2 x hx)).2) this
theorem safe_iff (sets : List (List Int)) : ∀ l : List (List Int), (safeF sets l).isSome = l.all fun c => (sets.find? fun s => apartF s c).isSome
  | [] => rfl
  | c :: r => by
    rw [safeF, List.all_cons]
    cases hf : sets.find? (fun s => apartF s c) with
    | none => simp
    | some s => simp [safe_iff sets r]
/-- Exactly one of both. -/
theorem lock_or_safe {g : Gt} {most : Int} (h : errL g most = 0) : (lockR g most).2.1 = !(safeR g most).2.1 ∧ (lockR g most).2.2 = 0 ∧ (safeR g most).2.2 = 0 := by
  have hk := errL_ok h
  have hs : (safeR g most).2.1 = (safeF (setsF g) (greatF g most)).isSome ∧ (safeR g most).2.2 = 0 := by
    rw [safeR, if_pos h]; cases safeF (setsF g) (greatF g most) <;> exact ⟨rfl, rfl⟩
  have hl : (lockR g most).2.1 = ((allUp (pplF g) (topF g most + 1)).find? (locksF g)).isSome ∧ (lockR g most).2.2 = 0 := by
    rw [lockR, if_pos h, firstF]; cases (allUp (pplF g) (topF g most + 1)).find? (locksF g) <;> exact ⟨rfl, rfl⟩
  refine ⟨?_, hl.2, hs.2⟩
  rw [hl.1, hs.1, safe_iff, Bool.eq_iff_iff, List.find?_isSome, Bool.not_eq_true', List.all_eq_false]
  constructor
  · rintro ⟨s, h1, h2⟩
    obtain ⟨k1, k2⟩ := (mem_up _ _ s).1 h1
    obtain ⟨c, c1, c2, c3⟩ := grow_sub _ s (topF g most) k1 (by omega) (Nat.min_le_right _ _)
    have hlc := locks_more hk.c k1 c1 c3.subset h2
    have hpc : permF g c = true := by simp only [locksF, Bool.and_eq_true] at hlc; exact hlc.1
    refine ⟨c, List.mem_filter.2 ⟨(mem_choose _ _ c).2 ⟨c1, c2⟩, hpc⟩, ?_⟩
    rw [great_locks hk.c c1 hpc] at hlc
    rw [Option.isNone_iff_eq_none.1 hlc]; simp
  · rintro ⟨c, h1, h2⟩
    obtain ⟨k1, k2⟩ := List.mem_filter.1 h1
    obtain ⟨c1, c2⟩ := (mem_choose _ _ c).1 k1
    refine ⟨c, (mem_up _ _ c).2 ⟨c1, by omega⟩, ?_⟩
    rw [great_locks hk.c c1 k2]
    cases hf : (setsF g).find? (fun s => apartF s c) with
    | none => rfl
    | some s => rw [hf] at h2; simp at h2
end Go.Proofs.YtlgamlamolfnlaaGreat

/- Who could lock the others out: the laws, in plain lists. No conditions. -/
set_option linter.unusedSimpArgs false
set_option linter.unusedVariables false
namespace Go.Proofs.YtlgamlamolfnlaaGreat
open Go Go.Proofs Go.Abs

theorem acc_all {g : Gt} : ∀ {l o : List (List Int)}, accF g l o = true → ∀ c ∈ l, ∃ s, okO g c s = true
  | [], [], _, c, hc => by simp at hc
  | c :: r, s :: o, h, d, hd => by
    rw [accF, Bool.and_eq_true] at h
    rcases List.mem_cons.1 hd with rfl | hd
    · exact ⟨s, h.1⟩
    · exact acc_all h.2 d hd
  | [], _ :: _, h, _, _ => by simp [accF] at h
  | _ :: _, [], h, _, _ => by simp [accF] at h
/-- No proof is accepted where somebody locks out. -/
theorem acc_no_lock {g : Gt} {most : Int} {others : List (List Int)} (h : errL g most = 0) (ha : accF g (greatF g most) others = true) : (lockR g most).2.1 = false := by
  have hk := errL_ok h
  rw [(lock_or_safe h).1, Bool.not_eq_false']
  have hs : (safeF (setsF g) (greatF g most)).isSome = true := by
    rw [safe_iff, List.all_eq_true]
    intro c hc
    obtain ⟨s, hs⟩ := acc_all ha c hc
    simp only [okO, Bool.and_eq_true, decide_eq_true_eq, incF_iff, apartF] at hs
    obtain ⟨⟨⟨h1, h2⟩, h3⟩, h4⟩ := hs
    have hsub := sub_of_asc (pplF g) s h1 hk.p h2
    obtain ⟨t, t1, t2⟩ := minl_exists (fine := holdP g) hk.p hsub h4
    rw [List.find?_isSome]
    exact ⟨t, (mem_mins hk.p t).2 t1, by simp only [apartF, decide_eq_true_eq]; exact fun x hx => h3 x (t2 x hx)⟩
  rw [safeR, if_pos h]
  cases hf : safeF (setsF g) (greatF g most) with
  | none => rw [hf] at hs; cases hs
  | some l => rfl
/-- One's own proof is accepted. -/
theorem safe_acc {g : Gt} (hc : checkF g = 0) : ∀ (L l : List (List Int)), safeF (setsF g) L = some l → accF g L l = true
  | [], l, h => by rw [safeF] at h; cases h; rfl
  | c :: r, l, h => by
    rw [safeF] at h
    cases hf : (setsF g).find? (fun s => apartF s c) with
    | none => rw [hf] at h; cases h
    | some s =>
      rw [hf] at h
      obtain ⟨l2, h1, rfl⟩ := Option.map_eq_some_iff.1 h
      rw [accF, safe_acc hc r l2 h1, Bool.and_true]
      have hP := ppl_lt hc
      have hm := (mem_mins hP s).1 (List.mem_of_find?_eq_some hf)
      have ha := List.find?_some hf
      simp only [okO, Bool.and_eq_true, decide_eq_true_eq, incF_iff]
      exact ⟨⟨⟨hP.sublist hm.1, hm.1.subset⟩, ha⟩, hm.2.1⟩
theorem safe_len (sets : List (List Int)) : ∀ (L l : List (List Int)), safeF sets L = some l → l.length = L.length ∧ ∀ s ∈ l, s ∈ sets
  | [], l, h => by rw [safeF] at h; cases h; simp
  | c :: r, l, h => by
    rw [safeF] at h
    cases hf : sets.find? (fun s => apartF s c) with
    | none => rw [hf] at h; cases h
    | some s =>
      rw [hf] at h
      obtain ⟨l2, h1, rfl⟩ := Option.map_eq_some_iff.1 h
      obtain ⟨k1, k2⟩ := safe_len sets r l2 h1
      refine ⟨by simp [k1], fun t ht => ?_⟩
      rcases List.mem_cons.1 ht with rfl | ht
      · exact List.mem_of_find?_eq_some hf
      · exact k2 t ht
theorem up_first {l : List Int} (hl : l.Pairwise (· < ·)) {m : Nat} {p : List Int → Bool} {w t : List Int} (hf : (allUp l m).find? p = some w) (ht : t.Sublist l) (hm : t.length < m) (hp : p t = true) : w.length ≤ t.length := by
  obtain ⟨h1, ps, qs, h2, h3⟩ := List.find?_eq_some_iff_append.1 hf
  have htm := (mem_up l m t).2 ⟨ht, hm⟩
  have hpw := up_pw l hl m
  rw [h2] at htm hpw
  rcases List.mem_append.1 htm with h | h
  · have := h3 t h; rw [hp] at this; cases this
  rcases List.mem_cons.1 h with rfl | h
  · exact Nat.le_refl _
  · rw [List.pairwise_append, List.pairwise_cons] at hpw
    exact (hpw.2.1.1 t h).1
theorem lock_cases {g : Gt} {most : Int} (h : errL g most = 0) : (∃ w, lockR g most = (w, true, 0) ∧ (allUp (pplF g) (topF g most + 1)).find? (locksF g) = some w ∧ w.Sublist (pplF g) ∧ w.length ≤ topF g most ∧ locksF g w = true) ∨ (lockR g most = ([], false, 0) ∧ ∀ s, s.Sublist (pplF g) → s.length ≤ topF g most → locksF g s = false) := by
  rw [lockR, if_pos h, firstF]
  cases hf : (allUp (pplF g) (topF g most + 1)).find? (locksF g) with
  | some w =>
    have := (mem_up _ _ w).1 (List.mem_of_find?_eq_some hf)
    exact .inl ⟨w, rfl, rfl, this.1, by omega, List.find?_some hf⟩
  | none =>
    refine .inr ⟨rfl, fun s h1 h2 => ?_⟩
    have := List.find?_eq_none.1 hf s ((mem_up _ _ s).2 ⟨h1, by omega⟩)
    simpa using this
theorem top_le (g : Gt) (most : Int) (h : 0 ≤ most) : ((topF g most : Nat) : Int) ≤ most := by
  have := Nat.min_le_left most.toNat (pplF g).length
  unfold topF; omega
theorem lock_more {g : Gt} {few many : Int} (h1 : errL g few = 0) (h2 : errL g many = 0) (hle : few ≤ many) {w : List Int} (hw : lockR g few = (w, true, 0)) : lockR g many = (w, true, 0) := by
  have ht : topF g few ≤ topF g many := by unfold topF; omega
  obtain ⟨d, hd⟩ : ∃ d, topF g many + 1 = topF g few + 1 + d := ⟨topF g many - topF g few, by omega⟩
  have e : allUp (pplF g) (topF g many + 1) = allUp (pplF g) (topF g few + 1) ++ ((List.range' (topF g few + 1) d).flatMap (chooseF (pplF g))) := by
    rw [hd, allUp, allUp, List.range_add, List.flatMap_append]
    congr 2
    rw [List.range'_eq_map_range]
  rcases lock_cases h1 with ⟨v, k1, k2, _⟩ | ⟨k1, _⟩
  · rw [k1] at hw
    cases hw
    rw [lockR, if_pos h2, firstF, e, List.find?_append, k2]; rfl
  · rw [k1] at hw; cases hw
theorem errL_more {g : Gt} {few many : Int} (h1 : errL g few = 0) (h0 : 0 ≤ many) (h2 : many ≤ 64) : errL g many = 0 := by
  have hk := errL_ok h1
  rw [errL, hk.r]
  simp only [if_true]
  rw [if_neg (by omega)]
theorem blocks_say {g : Gt} (h : checkF g = 0) {s : List Int} (hs : s.Sublist (pplF g)) : (someF (setsF g) s && someF (blksF g) s) = (permF g s && !permF g (wtF (pplF g) s)) := by
  rw [setsF, blksF, mins_some (ppl_lt h) (hold_mono h) hs, mins_some (ppl_lt h) (blk_mono h) hs]; rfl
/-- The people whose bits are not set. -/
def listN : List Int → Nat → List Int
  | [], _ => []
  | x :: r, s => if s % 2 = 1 then listN r (s / 2) else x :: listN r (s / 2)
theorem listN_wt : ∀ (l : List Int) (s : Nat), l.Nodup → listN l s = wtF l (listF l s)
  | [], _, _ => rfl
  | x :: r, s, h => by
    rw [List.nodup_cons] at h
    have hx : ∀ s, x ∉ listF r s := fun s e => h.1 ((listF_sub r s).subset e)
    have ih := listN_wt r (s / 2) h.2
    rw [listN, listF]
    split
    · rw [ih, wtF, wtF, List.filter_cons_of_neg (by simp)]
      refine List.filter_congr fun y hy => ?_
      have : y ≠ x := fun e => h.1 (e ▸ hy)
      simp [this]
    · rw [ih, wtF, wtF, List.filter_cons_of_pos (by simpa using hx _)]
end Go.Proofs.YtlgamlamolfnlaaGreat

/- The program's list of a formula's people. No conditions. -/
set_option linter.unusedSimpArgs false
set_option linter.unusedVariables false
namespace Go.Proofs.YtlgamlamolfnlaaGreat
open Go Go.Proofs Go.Abs

def plkV (i j : Nat) : AV := .func 53 [] [.ptr (some (i, 0)), .ptr (some (j, 0))]
set_option maxRecDepth 100000 in
theorem plk_calls_k (Γ : Nat → Option (List AV)) : ∀ (k : Nat) (g : Gt) (ks : List Int) (h : AH) (i j M : Nat), SizeOf.sizeOf g < k → Sh g → h[i]? = some (.row [.map (some M)] 78) → h[j]? = some (.row [plkV i j] 79) → h[M]? = some (mapO ks) →
    ACalls Tryz.prog Γ 53 [encG g, .ptr (some (i, 0)), .ptr (some (j, 0))] h fun v h' => h' = h.set M (mapO (keysF ks g)) ∧ v = .tuple []
  | 0, _, _, _, _, _, _, hk, _, _, _, _ => absurd hk (Nat.not_lt_zero _)
  | k + 1, .mk p n l, ks, h, i, j, M, hsz, hs, hi, hj, hM => by
    have hi' := hget_of hi
    have hj' := hget_of hj
    have hM' := hget_of hM
    have hiM : i ≠ M := fun e => by subst e; rw [hi] at hM; cases hM
    have hjM : j ≠ M := fun e => by subst e; rw [hj] at hM; cases hM
    refine ACalls.dropAs (kept_map _ _ _) ?_
    refine acalls_code (rs := []) Tryz.func53 rfl rfl rfl rfl Ty.mixed (by kernel_rfl) ?_
    simp only [encG_mk]
    simp (disch := omega) only [go_sem, seval]
    have hl1 := hs.len
    have hl2 := hs.mem
    have hput := put_ents p ks
    have S0 : ∀ (o : AObj) (R : AH), (h.set M o ++ R)[h.length]? = R[0]? := fun o R => by
      have := hget_zero (h.set M o) R
      rwa [List.length_set] at this
    have Sk : ∀ (o : AObj) (R : AH) (q : Nat), (h.set M o ++ R)[h.length + q]? = R[q]? := fun o R q => by
      have := hget_add (h.set M o) R q
      rwa [List.length_set] at this
    have Si : ∀ (o : AObj) (R : AH), (h.set M o ++ R)[i]? = some (.row [.map (some M)] 78) := fun o R => by rw [hget_in _ (by simpa using hi'), List.getElem?_set_ne (fun e => hiM e.symm)]; exact hi
    have Sj : ∀ (o : AObj) (R : AH), (h.set M o ++ R)[j]? = some (.row [plkV i j] 79) := fun o R => by rw [hget_in _ (by simpa using hj'), List.getElem?_set_ne (fun e => hjM e.symm)]; exact hj
    have SM : ∀ (o : AObj) (R : AH), (h.set M o ++ R)[M]? = some o := fun o R => by rw [hget_in _ (by simpa using hM'), List.getElem?_set_self hM']
    have SS : ∀ (o o' : AObj) (R : AH), (h.set M o ++ R).set M o' = h.set M o' ++ R := fun o o' R => by rw [List.set_append_left _ _ (by simpa using hM'), List.set_set]
    refine aIf.intro (fun h1 => ?_) (fun h1 => ?_) <;> simp (disch := omega) only [go_sem, seval]
    · simp (disch := omega) only [go_sem, seval, hget_in _ hi', hi, hget_in _ hM', hM, mapO, hput]
      rw [hset_left _ _ hM']
      obtain ⟨ks1, hk1⟩ : ∃ ks1, ks1 = addK p ks := ⟨_, rfl⟩
      have hkf : keysF ks (.mk p n l) = keysL ks1 l := by rw [keysF, if_pos h1, hk1]
      rw [← hk1, hkf]
      simp (disch := omega) only [go_sem, seval, S0]
      refine awp_loopL (β := List AObj) l [1, 2, 13, 14, 15] (fun don _ => [(1, .ptr (some (i, 0))), (2, .ptr (some (j, 0))), (13, .sl (l.map encG) .free), (14, .int .i64 l.length), (15, .int .i64 don.length)])
        (fun jj => h.set M (mapO (keysL ks1 (l.take jj.length))) ++ .row [.int .i64 p, .int .i64 n, .sl (l.map encG) .free] 24 :: jj) (fun don _ jj => jj.length = don.length) [] ?_ ?_ rfl Ty.mixed (by kernel_rfl) ?_ ?_
      · simp (disch := omega) only [go_sem, seval]
      · simp [keysL, mapO]
      · rintro don x r jj rfl hjj
        have hl3 := len_mid hl1
        rw [show (don ++ x :: r).take jj.length = don from by simp [hjj]]
        simp (disch := omega) only [go_sem, seval, List.map_append, List.map_cons, List.length_append]
        refine aIf.pos (by omega) ?_
        have e1 : ∀ (o a : AObj) (R : AH), (h.set M o ++ a :: (jj ++ R))[h.length + (jj.length + 1)]? = R[0]? := fun o a R => by rw [Sk, List.getElem?_cons_succ]; exact hget_zero jj R
        have e2 : ∀ (o a o' : AObj) (R : AH), (h.set M o ++ a :: (jj ++ R)).set (h.length + (jj.length + 1)) o' = h.set M o ++ a :: (jj ++ R.set 0 o') := fun o a o' R => by
          have h1 := hset_add (h.set M o) (a :: (jj ++ R)) (jj.length + 1) o'
          rw [List.length_set] at h1
          rw [h1, List.set_cons_succ]
          have h2 := hset_add jj R 0 o'
          rw [Nat.add_zero] at h2
          rw [h2]
        simp (disch := omega) only [go_sem, seval, List.map_append, List.map_cons, List.length_append, List.length_set, Sj, plkV, e1, e2]
        refine ACalls.detH (plk_calls_k Γ k x (keysL ks1 don) _ i j M (mem_sz (by simp) hsz) (hl2 x (by simp)) (Si _ _) (Sj _ _) (SM _ _)) ?_
        rw [SS]
        simp (disch := omega) only [go_sem, seval]
        refine roundL_next (jj ++ [.row (encG x).cells 24]) (by simp [hjj]) ?_ ?_
        · simp (disch := omega) only [go_sem, seval, List.length_append, List.map_append, List.map_cons]
        · rw [show (don ++ x :: r).take (jj ++ [AObj.row (encG x).cells 24]).length = don ++ [x] from by simp [hjj, List.take_append, List.take_of_length_le], keysL_app]
          simp [keysL]
      · intro jj hjj
        simp (disch := omega) only [go_sem, seval, List.length_map]
        exact ⟨.row [.int .i64 p, .int .i64 n, .sl (l.map encG) .free] 24 :: jj, by rw [hjj, List.take_length]; rfl⟩
    · obtain ⟨ks1, hk1⟩ : ∃ ks1, ks1 = ks := ⟨_, rfl⟩
      have hkf : keysF ks (.mk p n l) = keysL ks1 l := by rw [keysF, if_neg h1, hk1]
      rw [hkf]
      rw [show h ++ [AObj.row [.int .i64 p, .int .i64 n, .sl (l.map encG) .free] 24] = h.set M (mapO ks1) ++ [.row [.int .i64 p, .int .i64 n, .sl (l.map encG) .free] 24] from by rw [hk1, hset_same hM]]
      refine awp_loopL (β := List AObj) l [1, 2, 13, 14, 15] (fun don _ => [(1, .ptr (some (i, 0))), (2, .ptr (some (j, 0))), (13, .sl (l.map encG) .free), (14, .int .i64 l.length), (15, .int .i64 don.length)])
        (fun jj => h.set M (mapO (keysL ks1 (l.take jj.length))) ++ .row [.int .i64 p, .int .i64 n, .sl (l.map encG) .free] 24 :: jj) (fun don _ jj => jj.length = don.length) [] ?_ ?_ rfl Ty.mixed (by kernel_rfl) ?_ ?_
      · simp (disch := omega) only [go_sem, seval]
      · simp [keysL, mapO]
      · rintro don x r jj rfl hjj
        have hl3 := len_mid hl1
        rw [show (don ++ x :: r).take jj.length = don from by simp [hjj]]
        simp (disch := omega) only [go_sem, seval, List.map_append, List.map_cons, List.length_append]
        refine aIf.pos (by omega) ?_
        have e1 : ∀ (o a : AObj) (R : AH), (h.set M o ++ a :: (jj ++ R))[h.length + (jj.length + 1)]? = R[0]? := fun o a R => by rw [Sk, List.getElem?_cons_succ]; exact hget_zero jj R
        have e2 : ∀ (o a o' : AObj) (R : AH), (h.set M o ++ a :: (jj ++ R)).set (h.length + (jj.length + 1)) o' = h.set M o ++ a :: (jj ++ R.set 0 o') := fun o a o' R => by
          have h1 := hset_add (h.set M o) (a :: (jj ++ R)) (jj.length + 1) o'
          rw [List.length_set] at h1
          rw [h1, List.set_cons_succ]
          have h2 := hset_add jj R 0 o'
          rw [Nat.add_zero] at h2
          rw [h2]
        simp (disch := omega) only [go_sem, seval, List.map_append, List.map_cons, List.length_append, List.length_set, Sj, plkV, e1, e2]
        refine ACalls.detH (plk_calls_k Γ k x (keysL ks1 don) _ i j M (mem_sz (by simp) hsz) (hl2 x (by simp)) (Si _ _) (Sj _ _) (SM _ _)) ?_
        rw [SS]
        simp (disch := omega) only [go_sem, seval]
        refine roundL_next (jj ++ [.row (encG x).cells 24]) (by simp [hjj]) ?_ ?_
        · simp (disch := omega) only [go_sem, seval, List.length_append, List.map_append, List.map_cons]
        · rw [show (don ++ x :: r).take (jj ++ [AObj.row (encG x).cells 24]).length = don ++ [x] from by simp [hjj, List.take_append, List.take_of_length_le], keysL_app]
          simp [keysL]
      · intro jj hjj
        simp (disch := omega) only [go_sem, seval, List.length_map]
        exact ⟨.row [.int .i64 p, .int .i64 n, .sl (l.map encG) .free] 24 :: jj, by rw [hjj, List.take_length]⟩
theorem plk_calls (Γ : Nat → Option (List AV)) (g : Gt) (ks : List Int) (h : AH) (i j M : Nat) (hs : Sh g) (hi : h[i]? = some (.row [.map (some M)] 78)) (hj : h[j]? = some (.row [plkV i j] 79)) (hM : h[M]? = some (mapO ks)) :
    ACalls Tryz.prog Γ 53 [encG g, .ptr (some (i, 0)), .ptr (some (j, 0))] h fun v h' => h' = h.set M (mapO (keysF ks g)) ∧ v = .tuple [] :=
  plk_calls_k Γ _ g ks h i j M (Nat.lt_succ_self _) hs hi hj hM
set_option maxRecDepth 100000 in
theorem people26_calls (Γ : Nat → Option (List AV)) (g : Gt) (h : AH) (hs : Sh g) (hc : checkF g = 0) (hn : (pplF g).length ≤ 12) :
    ACalls Tryz.prog Γ 29 [encG g] h fun v h' => h' = h ∧ v = .sl (encI (pplF g)) .free := by
  have hpe := peo_ppl (checkF_right hc)
  rw [peoF] at hpe
  cases g with | mk p n l =>
  refine ACalls.endM ?_
  refine acalls_codeM (rs := [.tmp 2]) Tryz.func29 rfl rfl rfl rfl rfl Ty.mixed (by kernel_rfl) ?_
  simp only [encG_mk]
  have hwk := fun ks h i j M => plk_calls Γ (.mk p n l) ks h i j M hs
  simp only [encG_mk] at hwk
  simp (disch := omega) only [go_sem, seval]
  refine ACalls.detH (hwk [] _ (h.length + 2) (h.length + 3) (h.length + 1) ?_ ?_ ?_) ?_
  · simp (disch := omega) only [go_sem, seval]
  · simp (disch := omega) only [go_sem, seval]
    rfl
  · simp (disch := omega) only [go_sem, seval]
    rfl
  obtain ⟨ks, hks⟩ : ∃ ks, ks = keysF [] (.mk p n l) := ⟨_, rfl⟩
  rw [← hks] at hpe ⊢
  have hkl : ks.length ≤ 12 := by rw [← (sortI_perm ks).length_eq, hpe]; exact hn
  rw [← hpe]
  clear hwk
  simp (disch := omega) only [go_sem, seval, mapO]
  obtain ⟨K, hK⟩ : ∃ K : List Nat → AH, ∀ s, K s = h ++ [.row [.int .i64 p, .int .i64 n, .sl (l.map encG) .free] 24, .map (entsB 0 ks) ks.length, .row [.map (some (h.length + 1))] 78, .row [plkV (h.length + 2) (h.length + 3)] 79, .iter (some (h.length + 1)) ks.length s] := ⟨_, fun _ => rfl⟩
  have Kl : ∀ s, (K s).length = h.length + 5 := fun s => by rw [hK]; simp
  have Km : ∀ s (R : AH), (K s ++ R)[h.length + 1]? = some (.map (entsB 0 ks) ks.length) := fun s R => by rw [hK]; simp
  have Ki : ∀ s (R : AH), (K s ++ R)[h.length + 4]? = some (.iter (some (h.length + 1)) ks.length s) := fun s R => by rw [hK]; simp
  have Kj : ∀ s (R : AH) s', (K s ++ R).set (h.length + 4) (.iter (some (h.length + 1)) ks.length s') = K s' ++ R := fun s R s' => by rw [hK, hK]; simp [hset_add]
  refine awp_loopS (α := CkS) [2, 12, 1000000] (fun s => [(2, s.v), (12, .ptr (some (h.length + 4, 0))), (1000000, .tuple [])]) (fun s => K s.seen ++ s.j)
    (fun s => s.seen.Nodup ∧ (∀ b ∈ s.seen, b < ks.length) ∧ OwnM (h.length + 5) s.j 3 s.v (encI (metF ks s.seen))) (fun s => ks.length - s.seen.length) ⟨[], .sl [] .full, []⟩ ?_ ?_ ⟨.nil, by simp, .inl ⟨rfl, rfl⟩⟩ Ty.mixed (by kernel_rfl) ?_
  · simp (disch := omega) only [go_sem, seval]
  · simp [hK, plkV]
  rintro ⟨seen, v, j⟩ ⟨hn1, hn2, hv⟩
  simp only at hn1 hn2 hv ⊢
  have hml := met_len hn1 hn2
  simp (disch := omega) only [go_sem, seval, Ki, Km]
  refine ⟨rfl, ?_, ?_, ?_⟩
  · intro e he
    obtain ⟨b, hb1, rfl⟩ := entsB_mem _ _ _ he
    simpa using hb1
  · intro hall
    have hall' : ∀ b, b < ks.length → b ∈ seen := fun b hb => by simpa using hall _ (entsB_at ks 0 b hb).2
    have hperm := met_all hn1 hn2 hall'
    have hl12 : (metF ks seen).length ≤ 12 := by rw [hperm.length_eq]; exact hkl
    have hsrt : sortI (metF ks seen) = sortI ks := sortI_of (sortI_le _) ((sortI_perm _).trans hperm)
    have hvc : v.cells = [v] := by rcases hv with ⟨rfl, _⟩ | ⟨_, _, _, rfl, _⟩ <;> rfl
    have hvg : v.good = true := by rcases hv with ⟨rfl, _⟩ | ⟨_, _, _, rfl, _⟩ <;> rfl
    simp (disch := omega) only [go_sem, seval]
    refine AWP.keep [2, 1000000] (aCode_ok Ty.mixed _ _ _ _ (by kernel_rfl) ?_)
    simp (disch := omega) only [go_sem, seval]
    rw [← Kl seen] at hv
    have hso := sortM_calls Γ (K seen) j [] 3 v _ hv (by omega)
    rw [List.append_nil] at hso
    refine ACalls.then hso ?_
    rintro _ _ ⟨j', hj', rfl, hv'⟩
    rw [List.append_nil]
    simp (disch := omega) only [go_sem, seval]
    rw [hsrt] at hv'
    refine ⟨⟨_, by rw [hK, List.append_assoc]⟩, ?_⟩
    rcases hv' with ⟨rfl, hnil⟩ | ⟨q, c, pad, rfl, hq, hc', hp⟩
    · left
      have : sortI ks = [] := by
        cases hm : sortI ks with
        | nil => rfl
        | cons a r => rw [hm] at hnil; simp [encI] at hnil
      rw [this]
      exact ⟨of_eq_true (rb_I _ []), rfl⟩
    · right
      refine ⟨5 + q, encI (sortI ks) ++ pad, 3, ?_, ?_⟩
      · rw [← Nat.add_assoc, ← Kl seen, hget_add]; exact hq
      · rw [Kl seen, encI_len, ← Nat.add_assoc]
        rw [encI_len] at hc'
        have hfo := fz_own (h.length + 5 + q) c (sortI ks) pad (by omega) hp
        rw [hfo]
        simp (disch := omega) only [go_sem, seval]
  · intro e he hns
    obtain ⟨b, hb1, rfl⟩ := entsB_mem _ _ _ he
    rw [Nat.zero_add] at hns ⊢
    have hfd := (entsB_at ks 0 b hb1).1
    rw [Nat.zero_add] at hfd
    rw [Kj]
    simp (disch := omega) only [go_sem, seval, Ki, Km, hfd]
    refine ⟨by omega, rfl, by simp [AV.cells, AV.one], ?_⟩
    simp (disch := omega) only [go_sem, seval, Kl, List.append_assoc, List.length_append]
    refine aApM_own (xs := encI (metF ks seen)) (ys := encI [ks.getD b 0]) (by rw [Kl]; exact hv.more _) ⟨[.int .i64 (ks.getD b 0)], 3, ?_, rfl, by simp, by simp [AV.one], rfl⟩ (rowsOK_I _) (flat_I _) (by simp [encI]) ?_ ?_ fun v' j' hv' _ => ?_
    · rw [← Kl (seen ++ [b]), hget_add]; simp [flat, AV.cells]
    · simp only [encI_len, metF, List.length_map, List.length_cons, List.length_nil]; omega
    · simp only [encI_len, metF, List.length_map, List.length_cons, List.length_nil]; omega
    rw [encI_app2] at hv'
    simp (disch := omega) only [go_sem, seval]
    have hq1 : (seen ++ [b]).Nodup := by rw [List.nodup_append]; exact ⟨hn1, by simp, by simpa using fun a ha e => hns (by simpa [← e] using ha)⟩
    have hq2 : ∀ a ∈ seen ++ [b], a < ks.length := by
      intro a ha
      rcases List.mem_append.1 ha with ha | ha
      · exact hn2 a ha
      · simp at ha; omega
    have hq3 := met_len hq1 hq2
    refine roundS_next ⟨seen ++ [b], v', j'⟩ ?_ ⟨hq1, hq2, ?_⟩ ?_ rfl
    · simp only [List.length_append, List.length_cons, List.length_nil] at hq3 ⊢; omega
    · rw [Kl] at hv'; simpa [metF] using hv'
    · simp (disch := omega) only [go_sem, seval]
end Go.Proofs.YtlgamlamolfnlaaGreat

/- Lockout's smaller functions: holds, without, all, check, Clone, Clip. No conditions. -/
set_option linter.unusedSimpArgs false
set_option linter.unusedVariables false
namespace Go.Proofs.YtlgamlamolfnlaaGreat
open Go Go.Proofs Go.Abs

set_option maxRecDepth 100000 in
theorem holds26_calls (Γ : Nat → Option (List AV)) (g : Gt) (who : List Int) (h : AH) (hs : Sh g) (hc : checkF g = 0) (hw : who.length ≤ 9223372036854775807) :
    ACalls Tryz.prog Γ 31 [encG g, .sl (encI who) .free] h fun v h' => h' = h ∧ v = .bool (permF g who) := by
  have c0 := fun h => Holds_calls Γ g who h hs hw
  cases g with | mk p n l =>
  refine ACalls.drop ?_
  obtain ⟨G, hG⟩ : ∃ G, G = Gt.mk p n l := ⟨_, rfl⟩
  have eG : encG G = .agg [.int .i64 p, .int .i64 n, .sl (l.map encG) .free] := by rw [hG, encG_mk]
  rw [← hG] at c0 hc ⊢
  have hr : ∃ a : Bool, ∃ b : Int, encR (holdsR G who) = .tuple [.bool a, .int .i64 b] ∧ (0 ≤ b ∧ b ≤ 1) ∧ permF G who = (decide (b = 0) && a) := by
    rw [permF, holdsR, if_pos hc]; split
    · exact ⟨_, 0, rfl, by decide, rfl⟩
    · exact ⟨_, 1, rfl, by decide, rfl⟩
  obtain ⟨a, b, hr, hb, he⟩ := hr
  rw [hr] at c0
  rw [eG] at c0 ⊢
  refine acalls_code (rs := [.tmp 4]) Tryz.func31 rfl rfl rfl rfl Ty.mixed (by kernel_rfl) ?_
  simp (disch := omega) only [go_sem, seval]
  refine ACalls.det (c0 _) ?_
  simp (disch := omega) only [go_sem, seval]
  refine aIf.intro (fun h1 => ?_) (fun h1 => ?_) <;> simp (disch := omega) only [go_sem, seval]
  · rw [he]; simp [h1]
  · rw [he]; simp [h1]
/-- Those who are gathered of a list. -/
def wkF (ks who : List Int) : List Int := who.foldl (fun ks n => addK n ks) ks
theorem mem_wkF (x : Int) : ∀ (who ks : List Int), x ∈ wkF ks who ↔ x ∈ ks ∨ x ∈ who
  | [], ks => by simp [wkF]
  | n :: r, ks => by
    have := mem_wkF x r (addK n ks)
    rw [wkF] at this
    rw [wkF, List.foldl_cons, this, mem_addK, List.mem_cons, or_assoc]
def wtV (c : Nat) : AV := .func 59 [] [.ptr (some (c, 0))]
def wtO (b : Nat) (who : List Int) : AH := [mapO (wkF [] who), .row [.map (some b)] 78]
set_option maxRecDepth 100000 in
theorem without26_calls (Γ : Nat → Option (List AV)) (who : List Int) (h : AH) (hw : who.length ≤ 9223372036854775807) :
    ACalls Tryz.prog Γ 33 [.sl (encI who) .free] h fun v h' => h' = h ++ wtO h.length who ∧ v = wtV (h.length + 1) := by
  refine acalls_code (rs := [.tmp 2]) Tryz.func33 rfl rfl rfl rfl Ty.mixed (by kernel_rfl) ?_
  simp (disch := omega) only [go_sem, seval]
  refine awp_loopL (β := List Int) who [3, 7, 8, 9] (fun don _ => [(3, .ptr (some (h.length + 1, 0))), (7, .sl (encI who) .free), (8, .int .i64 who.length), (9, .int .i64 don.length)])
    (fun ks => h ++ [mapO ks, .row [.map (some h.length)] 78]) (fun don r ks => ks = wkF [] don) [] ?_ ?_ rfl Ty.mixed (by kernel_rfl) ?_ ?_
  · simp (disch := omega) only [go_sem, seval, encI_len]
  · simp [mapO, entsB]
  · rintro don x r ks rfl hks
    have hl3 := len_mid hw
    have e1 : (encI (don ++ x :: r))[don.length]? = some (.int .i64 x) := by simp [encI]
    have hput := put_ents x ks
    simp (disch := omega) only [go_sem, seval, encI_len, List.length_append, List.length_cons]
    refine aIf.pos (by omega) ?_
    simp (disch := omega) only [go_sem, seval, encI_len, List.length_append, List.length_cons, e1, mapO, hput]
    refine roundL_next (addK x ks) ?_ ?_ ?_
    · rw [hks, wkF, wkF, List.foldl_append]; rfl
    · simp (disch := omega) only [go_sem, seval, List.length_append]
    · simp [mapO]
  · intro ks hks
    simp (disch := omega) only [go_sem, seval, encI_len]
    refine AWP.keep [3] (aCode_ok Ty.mixed _ _ _ _ (by kernel_rfl) ?_)
    simp (disch := omega) only [go_sem, seval]
    subst hks
    exact ⟨rfl, rfl⟩
set_option maxRecDepth 100000 in
theorem free_calls (Γ : Nat → Option (List AV)) (x : Int) (ks : List Int) (c M : Nat) (h : AH) (hc : h[c]? = some (.row [.map (some M)] 78)) (hM : h[M]? = some (mapO ks)) :
    ACalls Tryz.prog Γ 59 [.int .i64 x, .ptr (some (c, 0))] h fun v h' => h' = h ∧ v = .bool (!decide (x ∈ ks)) := by
  refine ACalls.drop ?_
  refine acalls_code (rs := [.tmp 3]) Tryz.func59 rfl rfl rfl rfl Ty.mixed (by kernel_rfl) ?_
  rw [mapO] at hM
  simp (disch := omega) only [go_sem, seval, hc, hM]
  rcases entsB_find x ks 0 with ⟨h1, j, e, h2, h3, h4⟩ | ⟨h1, h2⟩
  · simp (disch := omega) only [go_sem, seval, h2, h3, h4]
    simp [h1]
  · simp (disch := omega) only [go_sem, seval, h2]
    simp [h1]
set_option maxRecDepth 100000 in
theorem clip_calls (Γ : Nat → Option (List AV)) (l : List Int) (h : AH) (hl : l.length ≤ 9223372036854775807) :
    ACalls Tryz.prog Γ 58 [.sl (encI l) .free] h fun v h' => h' = h ∧ v = .sl (encI l) .full := by
  refine ACalls.drop ?_
  refine acalls_code (rs := [.tmp 2]) Tryz.func58 rfl rfl rfl rfl Ty.mixed (by kernel_rfl) ?_
  simp (disch := omega) only [go_sem, seval, encI_len]
  rw [show (encI l).take l.length = encI l from by rw [← encI_len l, List.take_length]]
  exact ⟨rowsOK_I _, Int.le_refl _, Int.le_refl _, RB.slFull fun r hr => by obtain ⟨x, _, rfl⟩ := List.mem_map.1 hr; exact .int _ _, rfl⟩
theorem cloneF_calls (Γ : Nat → Option (List AV)) (l : List Int) (h : AH) (hl : l.length ≤ 1000000) :
    ACalls Tryz.prog Γ 57 [.sl (encI l) .free] h fun v h' => h' = h ∧ v = .sl (encI l) .free := by
  refine ACalls.endM ((clone_calls Γ l h hl).mono ?_)
  rintro v _ ⟨j, rfl, hv⟩
  refine ⟨⟨j, rfl⟩, ?_⟩
  rcases hv with ⟨rfl, hnil⟩ | ⟨q, c, pad, rfl, hq, hc', hp⟩
  · left
    rw [hnil]
    exact ⟨of_eq_true (rb_I _ []), rfl⟩
  · right
    refine ⟨q, encI l ++ pad, 3, by rw [hget_add]; exact hq, ?_⟩
    rw [encI_len] at hc' ⊢
    have hfo := fz_own (h.length + q) c l pad (by omega) hp
    rw [hfo]
    exact ⟨of_eq_true (by simp (disch := omega) only [go_sem, seval]), by simp (disch := omega) only [go_sem, seval]⟩
set_option maxRecDepth 100000 in
theorem allw_calls (Γ : Nat → Option (List AV)) (l ks : List Int) (c M : Nat) (h : AH) (hl : l.length ≤ 1000000) (hc : h[c]? = some (.row [.map (some M)] 78)) (hM : h[M]? = some (mapO ks)) :
    ACalls Tryz.prog Γ 32 [.sl (encI l) .free, wtV c] h fun v h' => h' = h ∧ v = .sl (encI (wtF l ks)) .free := by
  have hc' := hget_of hc
  have hM' := hget_of hM
  refine ACalls.dropL ?_
  rw [wtV]
  refine acalls_code (rs := [.tmp 4]) Tryz.func32 rfl rfl rfl rfl Ty.mixed (by kernel_rfl) ?_
  simp (disch := omega) only [go_sem, seval, encI_len]
  refine awp_loopL (β := FlS) l [1, 4, 7, 8, 9] (fun don s => [(1, wtV c), (4, .sl (encI s.l) s.own), (7, .sl (encI l) .free), (8, .int .i64 l.length), (9, .int .i64 don.length)])
    (fun s => h ++ s.j) (fun don r s => OwnAt h s.j s.l.length s.own ∧ s.l = wtF don ks) ⟨[], .full, []⟩ ?_ (by simp) ⟨trivial, rfl⟩ Ty.mixed (by kernel_rfl) ?_ ?_
  · simp (disch := omega) only [go_sem, seval, encI, List.map_nil, List.length_map, wtV]
  · rintro don x r ⟨m, own, j⟩ rfl ⟨ho', hm⟩
    simp only at ho' hm ⊢
    have hl3 := len_mid hl
    have hml : m.length ≤ don.length := by rw [hm]; exact List.length_filter_le _ _
    have e1 : (encI (don ++ x :: r))[don.length]? = some (.int .i64 x) := by simp [encI]
    simp (disch := omega) only [go_sem, seval, encI_len, List.length_append, List.length_cons]
    refine aIf.pos (by omega) ?_
    simp (disch := omega) only [go_sem, seval, encI_len, List.length_append, List.length_cons, e1, wtV]
    refine ACalls.det (free_calls Γ x ks c M _ (by rw [hget_in _ hc']; exact hc) (by rw [hget_in _ hM']; exact hM)) ?_
    simp (disch := omega) only [go_sem, seval]
    refine aIf.intro (fun h1 => ?_) (fun h1 => ?_) <;> simp (disch := omega) only [go_sem, seval]
    · refine roundL_next ⟨m, own, j⟩ ⟨ho', ?_⟩ ?_ rfl
      · rw [hm]; simp [wtF, h1]
      · simp (disch := omega) only [go_sem, seval, List.length_append, wtV]
    · refine aAp_sl (by rw [encI_len]; exact ho') (rowsOK_I _) (rowsOK_I [x]) (by simp [encI_len]; omega) (by simp [encI_len]; omega) fun j' own' ho2 hg => ?_
      rw [encI_snoc]
      simp (disch := omega) only [go_sem, seval]
      refine roundL_next ⟨m ++ [x], own', j'⟩ ⟨?_, ?_⟩ ?_ rfl
      · simpa [encI_len] using ho2
      · rw [hm]; simp [wtF, h1]
      · simp (disch := omega) only [go_sem, seval, List.length_append, wtV]
  · rintro ⟨m, own, j⟩ ⟨ho', hm⟩
    simp only at hm
    simp (disch := omega) only [go_sem, seval, encI_len]
    refine AWP.keep [4] (aCode_ok Ty.mixed _ _ _ _ (by kernel_rfl) ?_)
    simp (disch := omega) only [go_sem, seval]
    rw [hm]
theorem wt_wk (l who : List Int) : wtF l (wkF [] who) = wtF l who := by
  rw [wtF, wtF]
  refine List.filter_congr fun x _ => ?_
  have := mem_wkF x who []
  simp only [List.not_mem_nil, false_or] at this
  rw [Bool.not_inj_iff, decide_eq_decide]; exact this
end Go.Proofs.YtlgamlamolfnlaaGreat
