/- Texts joined: CmpP. No conditions. -/
import Derived.Test.YtelehpccfaedjaaMrQ
import Derived.Test.YtelehpccfaedjaaMrS
/- Formulas compared, in plain lists. No conditions. -/
set_option linter.unusedSimpArgs false
set_option linter.unusedVariables false
namespace Go.Proofs.Ytelehpccfaedjaa
open Go Go.Proofs Go.Abs

/-- Is a list a part of another one? -/
def prtF (s m : List Int) : Bool := decide (∀ x ∈ s, x ∈ m)
theorem prtF_iff (s m : List Int) : prtF s m = true ↔ ∀ x ∈ s, x ∈ m := by simp [prtF]
def insF : List (List Int) → List Int → Option Nat
  | [], _ => none
  | s :: r, m => if prtF s m = true then some 0 else (insF r m).map (· + 1)
def lessL (S : List (List Int)) : List (List Int) → Option (List Nat)
  | [] => some []
  | m :: r => match insF S m with
    | none => none
    | some k => (lessL S r).map (k :: ·)
def moreR (old now : Gt) : List Int × Bool × Int :=
  if checkF old = 0 then (if (smallR now false).2 = 0 then (match (smallR now false).1.find? (fun s => !permF old s) with
    | some s => (s, true, 0)
    | none => ([], false, 0)) else ([], false, (smallR now false).2)) else ([], false, checkF old)
def lessR (old now : Gt) : List Nat × Bool × Int :=
  if (smallR old false).2 = 0 then (if (smallR now false).2 = 0 then (match lessL (smallR old false).1 (smallR now false).1 with
    | some l => (l, true, 0)
    | none => ([], false, 0)) else ([], false, (smallR now false).2)) else ([], false, (smallR old false).2)
def insL (l : List (List Int)) : List (List Int) → List Int → Bool
  | [], [] => true
  | m :: r, k :: s => decide (0 ≤ k ∧ k < l.length) && prtF (l.getD k.toNat []) m && insL l r s
  | _, _ => false
def okL (old : Gt) (l : List (List Int)) : Bool := l.all fun who => ascF (-1) who && permF old who
def accC (old now : Gt) (l : List (List Int)) (ins : List Int) : Bool × Int :=
  if checkF old = 0 then (if (smallR now false).2 = 0 then (if 256 < l.length then (false, 2) else (okL old l && insL l (smallR now false).1 ins, 0)) else (false, (smallR now false).2)) else (false, checkF old)

theorem insF_none {m : List Int} : ∀ {S : List (List Int)}, insF S m = none → ∀ s ∈ S, prtF s m = false
  | [], _, s, hs => by simp at hs
  | a :: S, h, s, hs => by
    rw [insF] at h
    split at h
    · cases h
    · rename_i hn
      rw [Option.map_eq_none_iff] at h
      rcases List.mem_cons.1 hs with rfl | hs
      · simpa using hn
      · exact insF_none h s hs
theorem insF_some {m : List Int} : ∀ {S : List (List Int)} {k : Nat}, insF S m = some k → ∃ s, S[k]? = some s ∧ prtF s m = true ∧ ∀ (j : Nat) (t : List Int), j < k → S[j]? = some t → prtF t m = false
  | [], k, h => by cases h
  | a :: S, k, h => by
    rw [insF] at h
    split at h
    · rename_i hp
      cases h
      exact ⟨a, rfl, hp, fun j t hj => by omega⟩
    · rename_i hn
      obtain ⟨k', h1, rfl⟩ := Option.map_eq_some_iff.1 h
      obtain ⟨s, e1, e2, e3⟩ := insF_some h1
      refine ⟨s, by simpa using e1, e2, fun j t hj et => ?_⟩
      cases j with
      | zero => simp at et; subst et; simpa using hn
      | succ j => exact e3 j t (by omega) (by simpa using et)
theorem insF_at {m s : List Int} : ∀ {S : List (List Int)} {k : Nat}, S[k]? = some s → prtF s m = true → (∀ (j : Nat) (t : List Int), j < k → S[j]? = some t → prtF t m = false) → insF S m = some k
  | [], k, h, _, _ => by simp at h
  | a :: S, 0, h, hp, _ => by simp at h; subst h; rw [insF, if_pos hp]
  | a :: S, k + 1, h, hp, hn => by
    rw [insF, if_neg (by rw [hn 0 a (by omega) rfl]; simp), insF_at (by simpa using h) hp (fun j t hj et => hn (j + 1) t (by omega) (by simpa using et))]
    rfl
theorem lessL_snoc {S : List (List Int)} : ∀ {don : List (List Int)} {out : List Nat} {m : List Int} {k : Nat}, lessL S don = some out → insF S m = some k → lessL S (don ++ [m]) = some (out ++ [k])
  | [], out, m, k, h, hk => by cases h; simp [lessL, hk]
  | a :: don, out, m, k, h, hk => by
    rw [lessL] at h
    rw [List.cons_append, lessL]
    cases ha : insF S a with
    | none => rw [ha] at h; cases h
    | some j =>
      rw [ha] at h
      obtain ⟨o, h1, rfl⟩ := Option.map_eq_some_iff.1 h
      rw [lessL_snoc h1 hk]; rfl
theorem lessL_stop {S : List (List Int)} : ∀ {don r : List (List Int)} {m : List Int}, insF S m = none → lessL S (don ++ m :: r) = none
  | [], r, m, h => by simp [lessL, h]
  | a :: don, r, m, h => by
    rw [List.cons_append, lessL]
    cases insF S a with
    | none => rfl
    | some j => rw [lessL_stop h]; rfl
theorem lessL_len {S : List (List Int)} : ∀ {l : List (List Int)} {out : List Nat}, lessL S l = some out → out.length = l.length
  | [], out, h => by cases h; rfl
  | m :: l, out, h => by
    rw [lessL] at h
    cases hm : insF S m with
    | none => rw [hm] at h; cases h
    | some k =>
      rw [hm] at h
      obtain ⟨o, h1, rfl⟩ := Option.map_eq_some_iff.1 h
      simp [lessL_len h1]
theorem lessL_iff (S : List (List Int)) : ∀ l : List (List Int), (lessL S l).isSome = l.all fun m => someF S m
  | [] => rfl
  | m :: l => by
    rw [lessL, List.all_cons]
    cases hm : insF S m with
    | none =>
      have : someF S m = false := by
        cases h : someF S m with
        | false => rfl
        | true =>
          obtain ⟨s, h1, h2⟩ := (someF_iff _ _).1 h
          have := insF_none hm s h1
          rw [(prtF_iff s m).2 h2] at this; cases this
      rw [this]; rfl
    | some k =>
      obtain ⟨s, h1, h2, _⟩ := insF_some hm
      have : someF S m = true := (someF_iff _ _).2 ⟨s, List.mem_of_getElem? h1, (prtF_iff s m).1 h2⟩
      rw [this, Bool.true_and, ← lessL_iff S l]
      cases lessL S l <;> rfl
/-- What lies in a list of sets, as the proof says it. -/
theorem lessL_in {S : List (List Int)} : ∀ {l : List (List Int)} {out : List Nat}, lessL S l = some out → insL S l (out.map fun (k : Nat) => (k : Int)) = true
  | [], out, h => by cases h; rfl
  | m :: l, out, h => by
    rw [lessL] at h
    cases hm : insF S m with
    | none => rw [hm] at h; cases h
    | some k =>
      rw [hm] at h
      obtain ⟨o, h1, rfl⟩ := Option.map_eq_some_iff.1 h
      obtain ⟨s, e1, e2, _⟩ := insF_some hm
      have hk := (List.getElem?_eq_some_iff.1 e1).1
      rw [List.map_cons, insL, lessL_in h1, Bool.and_true, Bool.and_eq_true, decide_eq_true_eq, Int.toNat_natCast, List.getD_eq_getElem?_getD, e1]
      exact ⟨⟨by omega, by omega⟩, e2⟩
theorem insL_all {L : List (List Int)} : ∀ {S : List (List Int)} {ins : List Int}, insL L S ins = true → ∀ m ∈ S, ∃ s ∈ L, prtF s m = true
  | [], _, _, m, hm => by simp at hm
  | a :: S, [], h, _, _ => by simp [insL] at h
  | a :: S, k :: ins, h, m, hm => by
    rw [insL, Bool.and_eq_true, Bool.and_eq_true, decide_eq_true_eq] at h
    rcases List.mem_cons.1 hm with rfl | hm
    · have hk : k.toNat < L.length := by omega
      refine ⟨L[k.toNat], List.getElem_mem hk, ?_⟩
      have := h.1.2
      rwa [List.getD_eq_getElem?_getD, List.getElem?_eq_getElem hk, Option.getD_some] at this
    · exact insL_all h.2 m hm

/-- A right formula with few people. -/
structure Rt (g : Gt) : Prop where
  e : errF g = 0
  c : checkF g = 0
  p : (pplF g).Pairwise (· < ·)
  n : (pplF g).length ≤ 8
  lv : allLeaves g ≤ 256
  r : smallR g false = (setsF g, 0)
theorem rt_of {g : Gt} (he : errF g = 0) (hn : (pplF g).length ≤ 8) : Rt g := by
  obtain ⟨h1, h2, h3⟩ := errF_facts he
  have hP := ppl_lt h1
  refine ⟨he, h1, hP, hn, h2, ?_⟩
  have hl : (minsF (pplF g) (fineF g false)).length ≤ 256 := by
    rw [show fineF g false = holdP g from rfl, ← yld_len hP (by omega) (hold_mono h1)]
    have : (yldF (pplF g) (holdP g) (2 ^ (pplF g).length)).length ≤ 2 ^ (pplF g).length := by
      rw [yldF, List.length_map]
      exact Nat.le_trans (List.length_filter_le _ _) (by simp)
    exact Nat.le_trans this (Nat.le_trans (Nat.pow_le_pow_right (by omega) hn) (by decide))
  rw [smallR, if_pos he, if_neg (by omega)]
  rfl
theorem sets_asc {g : Gt} (h : checkF g = 0) {s : List Int} (hs : s ∈ setsF g) : ascF (-1) s = true := sub_asc h ((mem_mins (ppl_lt h) s).1 hs).1
/-- The smallest sets say who is permitted, whoever else is there. -/
theorem sets_say {g : Gt} (h : checkF g = 0) {m : List Int} (hm : ascF (-1) m = true) : someF (setsF g) m = permF g m := by
  have hP := ppl_lt h
  have ht : ((pplF g).filter fun x => decide (x ∈ m)).Sublist (pplF g) := List.filter_sublist
  have h1 : permF g m = permF g ((pplF g).filter fun x => decide (x ∈ m)) := perm_eq h hm (sub_asc h ht) fun x hx => by simp [hx]
  have h2 := mins_some hP (hold_mono h) ht
  rw [h1, show permF g ((pplF g).filter fun x => decide (x ∈ m)) = holdP g ((pplF g).filter fun x => decide (x ∈ m)) from rfl, ← h2, Bool.eq_iff_iff, someF_iff, someF_iff]
  constructor
  · rintro ⟨s, k1, k2⟩
    exact ⟨s, k1, fun x hx => List.mem_filter.2 ⟨((mem_mins hP s).1 k1).1.subset hx, by simpa using k2 x hx⟩⟩
  · rintro ⟨s, k1, k2⟩
    exact ⟨s, k1, fun x hx => by have := (List.mem_filter.1 (k2 x hx)).2; simpa using this⟩
theorem perm_up {g : Gt} (h : checkF g = 0) {s t : List Int} (hs : ascF (-1) s = true) (ht : ascF (-1) t = true) (hst : ∀ x ∈ s, x ∈ t) (hp : permF g s = true) : permF g t = true := perm_sub h hs ht (fun x _ hx => hst x hx) hp
/-- A proof, or people who are more. -/
theorem more_less {a b : Gt} (ha : Rt a) (hb : Rt b) : (moreR a b).2.1 = !(lessR a b).2.1 ∧ (moreR a b).2.2 = 0 ∧ (lessR a b).2.2 = 0 := by
  have h1 : (moreR a b).2.1 = ((setsF b).find? fun s => !permF a s).isSome ∧ (moreR a b).2.2 = 0 := by
    rw [moreR, if_pos ha.c, hb.r, if_pos rfl]
    simp only
    cases (setsF b).find? fun s => !permF a s <;> exact ⟨rfl, rfl⟩
  have h2 : (lessR a b).2.1 = (lessL (setsF a) (setsF b)).isSome ∧ (lessR a b).2.2 = 0 := by
    rw [lessR, ha.r, hb.r, if_pos rfl, if_pos rfl]
    simp only
    cases lessL (setsF a) (setsF b) <;> exact ⟨rfl, rfl⟩
  refine ⟨?_, h1.2, h2.2⟩
  rw [h1.1, h2.1, lessL_iff, Bool.eq_iff_iff, List.find?_isSome, Bool.not_eq_true', List.all_eq_false]
  constructor
  · rintro ⟨s, k1, k2⟩
    refine ⟨s, k1, ?_⟩
    rw [sets_say ha.c (sets_asc hb.c k1)]
    simpa using k2
  · rintro ⟨s, k1, k2⟩
    refine ⟨s, k1, ?_⟩
    rw [sets_say ha.c (sets_asc hb.c k1)] at k2
    simpa using k2
theorem more_cases {a b : Gt} (ha : Rt a) (hb : Rt b) : (∃ s, moreR a b = (s, true, 0) ∧ s ∈ setsF b ∧ permF a s = false) ∨ (moreR a b = ([], false, 0) ∧ ∀ s ∈ setsF b, permF a s = true) := by
  rw [moreR, if_pos ha.c, hb.r, if_pos rfl]
  simp only
  cases hf : (setsF b).find? fun s => !permF a s with
  | some s => exact .inl ⟨s, rfl, List.mem_of_find?_eq_some hf, by have := List.find?_some hf; simpa using this⟩
  | none => exact .inr ⟨rfl, fun s hs => by have := List.find?_eq_none.1 hf s hs; simpa using this⟩
theorem less_cases {a b : Gt} (ha : Rt a) (hb : Rt b) : (∃ l, lessR a b = (l, true, 0) ∧ lessL (setsF a) (setsF b) = some l) ∨ lessR a b = ([], false, 0) := by
  rw [lessR, ha.r, hb.r, if_pos rfl, if_pos rfl]
  simp only
  cases hf : lessL (setsF a) (setsF b) with
  | some l => exact .inl ⟨l, rfl, rfl⟩
  | none => exact .inr rfl
/-- Whoever is permitted by the second formula is by the first one. -/
def permits (a b : Gt) : Prop := ∀ s, ascF (-1) s = true → permF b s = true → permF a s = true
theorem less_iff {a b : Gt} (ha : Rt a) (hb : Rt b) : (lessR a b).2.1 = true ↔ permits a b := by
  have h2 : (lessR a b).2.1 = (lessL (setsF a) (setsF b)).isSome := by
    rcases less_cases ha hb with ⟨l, h1, h2⟩ | h1
    · rw [h1, h2]; rfl
    · have := (more_less ha hb).1
      rw [lessR, ha.r, hb.r, if_pos rfl, if_pos rfl]
      simp only
      cases lessL (setsF a) (setsF b) <;> rfl
  rw [h2, lessL_iff, List.all_eq_true]
  constructor
  · intro h s hs hp
    rw [← sets_say hb.c hs, someF_iff] at hp
    obtain ⟨m, k1, k2⟩ := hp
    have := h m k1
    rw [sets_say ha.c (sets_asc hb.c k1)] at this
    exact perm_up ha.c (sets_asc hb.c k1) hs k2 this
  · intro h m hm
    rw [sets_say ha.c (sets_asc hb.c hm)]
    have hP := ppl_lt hb.c
    exact h m (sets_asc hb.c hm) ((mem_mins hP m).1 hm).2.1
theorem acc_shape {a b : Gt} (ha : Rt a) (hb : Rt b) {l : List (List Int)} {ins : List Int} (hl : l.length ≤ 256) : accC a b l ins = (okL a l && insL l (setsF b) ins, 0) := by
  rw [accC, if_pos ha.c, hb.r, if_pos rfl, if_neg (by omega)]
/-- What is accepted is so. -/
theorem acc_sound {a b : Gt} (ha : Rt a) (hb : Rt b) {l : List (List Int)} {ins : List Int} (hl : l.length ≤ 256) (h : (accC a b l ins).1 = true) : permits a b := by
  rw [acc_shape ha hb hl] at h
  simp only [Bool.and_eq_true, okL, List.all_eq_true] at h
  obtain ⟨h1, h2⟩ := h
  intro s hs hp
  rw [← sets_say hb.c hs, someF_iff] at hp
  obtain ⟨m, k1, k2⟩ := hp
  obtain ⟨t, q1, q2⟩ := insL_all h2 m k1
  exact perm_up ha.c (h1 t q1).1 hs (fun x hx => k2 x ((prtF_iff t m).1 q2 x hx)) (h1 t q1).2
/-- One's own proof is accepted. -/
theorem acc_own {a b : Gt} (ha : Rt a) (hb : Rt b) {l : List Nat} (h : lessL (setsF a) (setsF b) = some l) (hl : (setsF a).length ≤ 256) : accC a b (setsF a) (l.map fun (k : Nat) => (k : Int)) = (true, 0) := by
  rw [acc_shape ha hb hl, lessL_in h, Bool.and_true]
  have : okL a (setsF a) = true := by
    rw [okL, List.all_eq_true]
    intro s hs
    rw [sets_asc ha.c hs, Bool.true_and]
    exact ((mem_mins (ppl_lt ha.c) s).1 hs).2.1
  rw [this]
theorem sets_le {g : Gt} (h : Rt g) : (setsF g).length ≤ 256 := by
  have := h.r
  rw [smallR, if_pos h.e] at this
  split at this
  · simp at this
  · rename_i hl
    show (minsF (pplF g) (fineF g false)).length ≤ 256
    omega
/-- Each set is a part of itself, and of none ahead of it. -/
theorem less_self {a : Gt} (ha : Rt a) : lessR a a = (List.range (setsF a).length, true, 0) := by
  have hO := mins_ord (holdP a) ha.p
  have key : ∀ (r don : List (List Int)), setsF a = don ++ r → lessL (setsF a) r = some (List.range' don.length r.length) := by
    intro r
    induction r with
    | nil => intro don _; rfl
    | cons m r ih =>
      intro don hd
      have hm : insF (setsF a) m = some don.length := by
        refine insF_at (s := m) (by rw [hd]; simp) ((prtF_iff m m).2 fun x hx => hx) fun j t hj et => ?_
        have hn := hO.none
        rw [show minsF (pplF a) (holdP a) = don ++ m :: r from hd, List.pairwise_append] at hn
        rw [hd, List.getElem?_append_left hj] at et
        have := hn.2.2 t (List.mem_of_getElem? et) m (by simp)
        cases hx : prtF t m with
        | false => rfl
        | true => exact absurd ((prtF_iff t m).1 hx) this
      rw [lessL, hm]
      simp only
      rw [ih (don ++ [m]) (by rw [hd]; simp)]
      simp [List.range'_succ]
  have h := key (setsF a) [] rfl
  rw [lessR, ha.r, if_pos rfl, if_pos rfl]
  simp only
  rw [h]
  simp [List.range_eq_range']
end Go.Proofs.Ytelehpccfaedjaa
