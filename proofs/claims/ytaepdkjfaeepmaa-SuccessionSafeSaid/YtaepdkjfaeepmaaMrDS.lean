/- Texts joined: SucZo. No conditions. -/
import Derived.Test.YtaepdkjfaeepmaaMrDO
/- Members and prices as maps: plain. No conditions. -/
set_option linter.unusedSimpArgs false
set_option linter.unusedVariables false
namespace Go.Proofs.Ytaepdkjfaeepmaa
open Go Go.Proofs Go.Abs

section
variable {κ β : Type} [DecidableEq κ]
def mUpd (k : κ) (y : β) : List (κ × β) → List (κ × β)
  | [] => [(k, y)]
  | e :: r => if e.1 = k then (k, y) :: r else e :: mUpd k y r
def mGet (k : κ) : List (κ × β) → Option β
  | [] => none
  | e :: r => if e.1 = k then some e.2 else mGet k r
def mEnts (kv : κ → AV) (ev : β → AV) : Nat → List (κ × β) → List (Nat × AV × AV)
  | _, [] => []
  | i, e :: r => (i, kv e.1, ev e.2) :: mEnts kv ev (i + 1) r
def mIdx (k : κ) : List (κ × β) → Option Nat
  | [] => none
  | e :: r => if e.1 = k then some 0 else (mIdx k r).map (· + 1)
theorem mGet_upd (k k' : κ) (y : β) : ∀ m : List (κ × β), mGet k' (mUpd k y m) = if k' = k then some y else mGet k' m
  | [] => by
    by_cases h : k' = k
    · simp [mUpd, mGet, h]
    · simp [mUpd, mGet, h, Ne.symm h]
  | e :: r => by
    rw [mUpd]
    by_cases h : e.1 = k
    · rw [if_pos h, mGet, mGet]
      by_cases h2 : k' = k
      · subst h2; simp
      · rw [if_neg (fun e' => h2 e'.symm), if_neg h2, if_neg (fun e' => h2 (e'.symm.trans h))]
    · rw [if_neg h, mGet, mGet, mGet_upd k k' y r]
      by_cases h2 : e.1 = k'
      · rw [if_pos h2, if_pos h2, if_neg (fun e' => h (h2.trans e'))]
      · rw [if_neg h2, if_neg h2]
variable (kv : κ → AV) (ev : β → AV)
omit [DecidableEq κ] in
theorem mEnts_get : ∀ (m : List (κ × β)) (i j : Nat), (mEnts kv ev i m)[j]? = (m[j]?).map fun e => (i + j, kv e.1, ev e.2)
  | [], i, j => by simp [mEnts]
  | e :: r, i, 0 => by simp [mEnts]
  | e :: r, i, j + 1 => by
    rw [mEnts, List.getElem?_cons_succ, List.getElem?_cons_succ, mEnts_get r (i + 1) j]
    congr 1
    funext x
    rw [show i + 1 + j = i + (j + 1) from by omega]
omit [DecidableEq κ] in
theorem mEnts_len (m : List (κ × β)) (i : Nat) : (mEnts kv ev i m).length = m.length := by
  induction m generalizing i with
  | nil => rfl
  | cons e r ih => simp [mEnts, ih]
theorem mIdx_get (k : κ) : ∀ m : List (κ × β), (mIdx k m = none ∧ mGet k m = none) ∨ ∃ j y, mIdx k m = some j ∧ m[j]? = some (k, y) ∧ mGet k m = some y
  | [] => .inl ⟨rfl, rfl⟩
  | e :: r => by
    by_cases h : e.1 = k
    · exact .inr ⟨0, e.2, by simp [mIdx, h], by simp [← h], by simp [mGet, h]⟩
    · rcases mIdx_get k r with ⟨h1, h2⟩ | ⟨j, y, h1, h2, h3⟩
      · exact .inl ⟨by simp [mIdx, h, h1], by simp [mGet, h, h2]⟩
      · exact .inr ⟨j + 1, y, by simp [mIdx, h, h1], by simpa using h2, by simp [mGet, h, h3]⟩
def mLk (ok : Bool) (z : AV) : Option β → AV
  | some e => if ok then .tuple [ev e, .bool true] else ev e
  | none => if ok then .tuple [z, .bool false] else z
theorem mLook {F : Option (Option Nat)} (ok : Bool) (z : AV) (k : κ) (m : List (κ × β)) (hF : F = some (mIdx k m)) (K : AV → Prop) : aLkF ok z F (mEnts kv ev 0 m) K = K (mLk ev ok z (mGet k m)) := by
  rw [hF]
  rcases mIdx_get k m with ⟨h1, h2⟩ | ⟨j, y, h1, h2, h3⟩
  · rw [h1, h2]; rfl
  · rw [h1, h3]
    have hg := mEnts_get kv ev m 0 j
    rw [h2] at hg
    simp [aLkF, hg, mLk]
theorem mUpd_len (k : κ) (y : β) : ∀ m : List (κ × β), (mIdx k m = none ∧ mUpd k y m = m ++ [(k, y)]) ∨ ∃ j, mIdx k m = some j ∧ mUpd k y m = m.set j (k, y)
  | [] => .inl ⟨rfl, rfl⟩
  | e :: r => by
    by_cases h : e.1 = k
    · exact .inr ⟨0, by simp [mIdx, h], by simp [mUpd, h]⟩
    · rcases mUpd_len k y r with ⟨h1, h2⟩ | ⟨j, h1, h2⟩
      · exact .inl ⟨by simp [mIdx, h, h1], by simp [mUpd, h, h2]⟩
      · exact .inr ⟨j + 1, by simp [mIdx, h, h1], by simp [mUpd, h, h2]⟩
theorem mPut {F : Option (Option Nat)} (k : κ) (y : β) (m : List (κ × β)) (hF : F = some (mIdx k m)) : F.bind (putEnt (mEnts kv ev 0 m) m.length (kv k) (ev y)) = some (.map (mEnts kv ev 0 (mUpd k y m)) (mUpd k y m).length) := by
  rw [hF]
  rcases mUpd_len k y m with ⟨h1, h2⟩ | ⟨j, h1, h2⟩
  · rw [h1, h2]
    simp only [Option.bind_some, putEnt]
    congr 2
    · apply List.ext_getElem?
      intro i
      rw [mEnts_get, List.getElem?_append, List.getElem?_append, mEnts_len]
      split
      · rw [mEnts_get]
      · rename_i hi
        cases hq : i - m.length with
        | zero => rw [show i = m.length by omega]; simp
        | succ n => simp
    · simp
  · rw [h1, h2]
    rcases mIdx_get k m with ⟨g1, _⟩ | ⟨j', y', g1, g2, _⟩
    · rw [g1] at h1; cases h1
    · rw [g1] at h1; cases h1
      simp only [Option.bind_some, putEnt, mEnts_get, g2, Option.map_some, List.length_set]
      congr 2
      apply List.ext_getElem?
      intro i
      rw [mEnts_get, List.getElem?_set, List.getElem?_set, mEnts_get, mEnts_len]
      have hj := (List.getElem?_eq_some_iff.1 g2).1
      split
      · rename_i h; subst h
        simp [hj]
      · rfl
end
theorem mFind_int {β : Type} (ev : β → AV) (p : Int) : ∀ (m : List (Int × β)) (i : Nat), aFind (.int .i64 p) (mEnts (fun n => .int .i64 n) ev i m) = some (mIdx p m)
  | [], _ => rfl
  | e :: r, i => by
    rw [mEnts, aFind, mFind_int ev p r (i + 1), mIdx]
    by_cases h : e.1 = p
    · simp [h]
    · simp [h, Ne.symm h]
def kvS (x : Sg) : AV := .agg [.int .i64 x.kind, .int .i64 x.person]
instance : DecidableEq Sg := fun a b => decidable_of_iff (a.kind = b.kind ∧ a.person = b.person) (by cases a; cases b; simp)
theorem mFind_S {β : Type} (ev : β → AV) (k : Sg) : ∀ (m : List (Sg × β)) (i : Nat), aFindS [(0, .int), (1, .int)] (kvS k) (mEnts kvS ev i m) = some (mIdx k m)
  | [], _ => rfl
  | e :: r, i => by
    have hk : eqK [(0, .int), (1, .int)] (kvS k) (kvS e.1) = some (decide (e.1 = k)) := by
      obtain ⟨⟨c, d⟩, v⟩ := e
      obtain ⟨a, b⟩ := k
      have : (decide ((⟨c, d⟩ : Sg) = ⟨a, b⟩)) = (decide (a = c) && decide (b = d)) := by
        rw [← Bool.decide_and, decide_eq_decide, Sg.mk.injEq]
        exact ⟨fun ⟨h1, h2⟩ => ⟨h1.symm, h2.symm⟩, fun ⟨h1, h2⟩ => ⟨h1.symm, h2.symm⟩⟩
      rw [this]
      simp [eqK, kvS, eqS, andO, eqCellO, eqCell]
    rw [mEnts, aFindS, hk, mFind_S ev k r (i + 1), mIdx]
    by_cases h : e.1 = k
    · simp [h, pairO]
    · simp [h, pairO]
/-- What the map of members says of a state. -/
def MI (s : Es) (m : Nat) (M : List (Int × Bool)) : Prop := ∀ p, (mGet p M).getD false = (decide (0 ≤ heirI s.heirs p) && m.testBit (heirI s.heirs p).toNat)
theorem heirI_inj {hs : List Hr} {p q : Int} (hp : 0 ≤ heirI hs p) (hq : 0 ≤ heirI hs q) (e : (heirI hs p).toNat = (heirI hs q).toNat) : p = q := by
  obtain ⟨x, h1, h2⟩ := heirI_spec p hs hp
  obtain ⟨y, h3, h4⟩ := heirI_spec q hs hq
  rw [e, h3] at h1
  cases h1
  exact h2.symm.trans h4
theorem MI.step {s : Es} {m : Nat} {M : List (Int × Bool)} (h : MI s m M) {p : Int} {i : Nat} (hp : heirI s.heirs p = i) : MI s (m ^^^ 2 ^ i) (mUpd p (!m.testBit i) M) := fun q => by
  rw [mGet_upd]
  by_cases e : q = p
  · subst e
    rw [if_pos rfl, hp, Option.getD_some, Nat.testBit_xor, Int.toNat_natCast, Nat.testBit_two_pow]
    simp
  · rw [if_neg e, h q]
    by_cases h0 : 0 ≤ heirI s.heirs q
    · have : i ≠ (heirI s.heirs q).toNat := fun e' => e (heirI_inj h0 (by omega) (by rw [hp, ← e']; omega))
      rw [Nat.testBit_xor, Nat.testBit_two_pow, decide_eq_false this]; simp
    · rw [decide_eq_false h0]; rfl
theorem orN_bit (hs : List Hr) (j : Nat) : ∀ (l : List Int) (a : Nat), (orN hs a l).testBit j = (a.testBit j || l.any fun p => decide ((heirI hs p).toNat = j))
  | [], a => by simp [orN]
  | x :: r, a => by
    have e : orN hs a (x :: r) = orN hs (a ||| 2 ^ (heirI hs x).toNat) r := rfl
    rw [e, orN_bit hs j r, Nat.testBit_or, Nat.testBit_two_pow, List.any_cons, Bool.or_assoc]
theorem MI.first {s : Es} (hO : HsOK s) {M : List (Int × Bool)} (hM : ∀ p, (mGet p M).getD false = decide (p ∈ s.members)) : MI s (numN s.heirs s.members) M := fun p => by
  have hm : ∀ x ∈ s.members, 0 ≤ heirI s.heirs x := by
    have : ∀ (l : List Int) (o : Option Int), hsF s.heirs o l = true → ∀ x ∈ l, 0 ≤ heirI s.heirs x := fun l => by
      induction l with
      | nil => intro _ _ x hx; cases hx
      | cons y r ih =>
        intro o h x hx
        rw [hsF, Bool.and_eq_true, Bool.and_eq_true, decide_eq_true_eq] at h
        rcases List.mem_cons.1 hx with rfl | hx
        · exact h.1.1
        · exact ih _ h.2 x hx
    exact this _ _ hO.mem
  rw [hM p, ← (num_lt hO.srt hO.mem).2, orN_bit]
  by_cases h0 : 0 ≤ heirI s.heirs p
  · rw [decide_eq_true h0, Nat.zero_testBit, Bool.false_or, Bool.true_and]
    refine Bool.eq_iff_iff.2 ?_
    rw [decide_eq_true_eq, List.any_eq_true]
    constructor
    · exact fun h => ⟨p, h, by simp⟩
    · rintro ⟨q, hq, e⟩
      rw [decide_eq_true_eq] at e
      rw [← heirI_inj (hm q hq) h0 e]; exact hq
  · rw [decide_eq_false h0, Bool.false_and, decide_eq_false]
    exact fun h => h0 (hm p h)
/-- How many of some people the map calls members. -/
def cntL (M : List (Int × Bool)) (l : List Int) : Nat := (l.filter fun p => (mGet p M).getD false).length
theorem cntL_le (M : List (Int × Bool)) (l : List Int) : cntL M l ≤ l.length := List.length_filter_le _ _
theorem cntL_among {s : Es} {m : Nat} {M : List (Int × Bool)} (h : MI s m M) : ∀ (l : List Int) (o : Option Int), hsF s.heirs o l = true → cntL M l = amongF s.heirs m l
  | [], _, _ => rfl
  | x :: r, o, hl => by
    rw [hsF, Bool.and_eq_true, Bool.and_eq_true, decide_eq_true_eq] at hl
    have ih := cntL_among h r _ hl.2
    have hm : memI (m : Int) (heirI s.heirs x) = m.testBit (heirI s.heirs x).toNat := by rw [← memI_nat, Int.toNat_of_nonneg hl.1.1]
    simp only [cntL, amongF] at ih ⊢
    rw [List.filter_cons, List.filter_cons, hm, h x, decide_eq_true hl.1.1, Bool.true_and]
    cases m.testBit (heirI s.heirs x).toNat <;> simp [ih]
theorem cntL_all {s : Es} (hO : HsOK s) {m : Nat} {M : List (Int × Bool)} (h : MI s m M) : cntL M (s.heirs.map (·.person)) = cntM m s.heirs.length := by
  have key : ∀ k, k ≤ s.heirs.length → cntL M ((s.heirs.take k).map (·.person)) = cntM m k := fun k => by
    induction k with
    | zero => intro _; rfl
    | succ k ih =>
      intro hk
      have e1 : s.heirs.take (k + 1) = s.heirs.take k ++ [hrAt s k] := by
        rw [List.take_add_one, List.getElem?_eq_getElem (by omega), hrAt, List.getD_eq_getElem?_getD, List.getElem?_eq_getElem (by omega)]; rfl
      have e2 : heirI s.heirs (hrAt s k).person = k := heirI_at hO.srt (by omega)
      have e3 := h (hrAt s k).person
      rw [e2, decide_eq_true (by omega), Bool.true_and, Int.toNat_natCast] at e3
      have ih := ih (by omega)
      rw [e1, List.map_append, cntM, ← ih, memI_nat]
      simp only [cntL, List.filter_append, List.length_append, List.map_cons, List.map_nil, List.filter_cons, List.filter_nil, e3]
      cases m.testBit k <;> rfl
  have := key _ (Nat.le_refl _)
  rwa [List.take_length] at this
/-- What a way is. -/
theorem fW_facts {s : Es} (hO : HsOK s) {m : Nat} (hm : m < 2 ^ s.heirs.length) {x : Sg} {w : Wy} (h : fW s m x = some w) :
    ∃ i, i < s.heirs.length ∧ x.person = (hrAt s i).person ∧ heirI s.heirs x.person = i ∧ w.t = m ^^^ 2 ^ i ∧ ((x.kind = 1 ∧ m.testBit i = false ∧ w.c = (hrAt s i).join) ∨ (x.kind = 2 ∧ m.testBit i = true ∧ w.c = (hrAt s i).leave)) := by
  have hx : x ∈ stagesL s := stage_mem (m := m) fun e => by
    unfold fW at h
    rw [if_pos e] at h; cases h
  rcases (mem_stagesL.1 hx) with ⟨hk, y, hy, he⟩
  obtain ⟨i, hi⟩ := List.getElem?_of_mem hy
  have hil := (List.getElem?_eq_some_iff.1 hi).1
  have hr : hrAt s i = y := by rw [hrAt, List.getD_eq_getElem?_getD, hi]; rfl
  obtain ⟨w1, w2⟩ := way_of hO hm hil
  have hI : heirI s.heirs (hrAt s i).person = i := heirI_at hO.srt hil
  have hp : x.person = (hrAt s i).person := by rw [hr]; exact he.symm
  refine ⟨i, hil, hp, by rw [hp]; exact hI, ?_⟩
  obtain ⟨xk, xp⟩ := x
  simp only at hk hp
  subst hp
  rcases hk with rfl | rfl
  · rw [w1] at h
    cases hb : m.testBit i <;> rw [hb] at h
    · cases h; exact ⟨rfl, .inl ⟨rfl, rfl, rfl⟩⟩
    · cases h
  · rw [w2] at h
    cases hb : m.testBit i <;> rw [hb] at h
    · cases h
    · cases h; exact ⟨rfl, .inr ⟨rfl, rfl, rfl⟩⟩
/-- What the map of prices says. -/
def PI (don : List Hr) (P : List (Sg × Int)) : Prop := ∀ x ∈ don, mGet ⟨1, x.person⟩ P = some x.join ∧ mGet ⟨2, x.person⟩ P = some x.leave
theorem PI.step {don : List Hr} {P : List (Sg × Int)} (h : PI don P) {x : Hr} (hx : ∀ y ∈ don, y.person ≠ x.person) : PI (don ++ [x]) (mUpd ⟨2, x.person⟩ x.leave (mUpd ⟨1, x.person⟩ x.join P)) := fun y hy => by
  rw [mGet_upd, mGet_upd, mGet_upd, mGet_upd]
  rcases List.mem_append.1 hy with hy | hy
  · have := hx y hy
    obtain ⟨h1, h2⟩ := h y hy
    simp [this, h1, h2]
  · rw [List.mem_singleton] at hy
    subst hy
    simp
end Go.Proofs.Ytaepdkjfaeepmaa
