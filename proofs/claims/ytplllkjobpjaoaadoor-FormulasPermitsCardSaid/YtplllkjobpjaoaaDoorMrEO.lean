/- Texts joined: PerO. No conditions. -/
import Derived.Test.YtplllkjobpjaoaaDoorMrEN
/- PermitsParts, the law. No conditions. -/
set_option linter.unusedSimpArgs false
set_option linter.unusedVariables false
namespace Go.Proofs.YtplllkjobpjaoaaDoor
open Go Go.Proofs Go.Abs

/-! ### The policy with another expression -/
theorem size_sub {x y : Ex} (hy : y ∈ x.l) : sizeX y ≤ sizeX x := by
  cases x; rw [sizeX]; have := size_mem (show y ∈ _ from hy); exact Nat.le_succ_of_le this
theorem depth_mem {x : Ex} : ∀ {l : List Ex}, x ∈ l → depthX x ≤ depthXs l
  | y :: r, h => by
    rw [depthXs]
    rcases List.mem_cons.1 h with rfl | h
    · omega
    · have := depth_mem h; omega
theorem depth_sub {x y : Ex} (hy : y ∈ x.l) : depthX y ≤ depthX x := by
  cases x; rw [depthX]; have := depth_mem (show y ∈ _ from hy); exact Nat.le_succ_of_le this
theorem large_sub {x y : Ex} (h : largeF x = false) (hy : y ∈ x.l) : largeF y = false := by
  have h1 := size_sub hy
  have h2 := depth_sub hy
  simp only [largeF, Bool.or_eq_false_iff, decide_eq_false_iff_not] at h ⊢
  omega
theorem ruleF_set : ∀ (ks : List Tx) (rs : List Rl) (k : Nat) (r : Rl) (x : Ex), rs[k]? = some r → ruleF ks (rs.set k (setX r x)) = ruleF ks rs
  | [], [], _, _, _, h => by simp at h
  | [], _ :: _, k, r, x, _ => by cases k <;> rfl
  | _ :: _, [], _, _, _, h => by simp at h
  | c :: ks, q :: rs, 0, r, x, h => by
    simp only [List.getElem?_cons_zero, Option.some.injEq] at h; subst h; rfl
  | c :: ks, q :: rs, k + 1, r, x, h => by
    simp only [List.getElem?_cons_succ] at h
    rw [List.set_cons_succ, ruleF, ruleF, ruleF_set ks rs k r x h]
theorem resd_set (o : List Tx) : ∀ (i : Int) (rs : List Rl) (k : Nat) (r : Rl) (x : Ex), rs[k]? = some r → resdF o x = true → resdRs o i rs = true → resdRs o i (rs.set k (setX r x)) = true
  | _, [], _, _, _, h, _, _ => by simp at h
  | i, q :: rs, 0, r, x, h, hx, hr => by
    simp only [List.getElem?_cons_zero, Option.some.injEq] at h
    subst h
    rw [resdRs, Bool.and_eq_true, Bool.and_eq_true] at hr
    rw [List.set_cons_zero, resdRs, Bool.and_eq_true, Bool.and_eq_true]
    exact ⟨⟨hr.1.1, hx⟩, hr.2⟩
  | i, q :: rs, k + 1, r, x, h, hx, hr => by
    simp only [List.getElem?_cons_succ] at h
    rw [resdRs, Bool.and_eq_true] at hr
    rw [List.set_cons_succ, resdRs, Bool.and_eq_true]
    exact ⟨hr.1, resd_set o (i + 1) rs k r x h hx hr.2⟩
theorem mem_instead {p : Pol} {k : Nat} {y : Ex} {q : Rl} (hq : q ∈ (insteadF p k y).rules) : q ∈ p.rules ∨ (q.x = y ∧ ∃ r, q.kind = r ∧ (k < p.rules.length → r = (p.rules.getD k ⟨[], 0, 0, .mk 0 0 0 [] []⟩).kind)) := by
  rcases List.mem_or_eq_of_mem_set hq with h | h
  · exact .inl h
  · right; subst h; exact ⟨rfl, _, rfl, fun _ => rfl⟩
theorem instead_ok {p : Pol} {k : Nat} {r : Rl} {y : Ex} (hc : checkF p = 0) (hr : p.rules[k]? = some r) (hy : y ∈ r.x.l) : checkF (insteadF p k y) = 0 := by
  have hrm : r ∈ p.rules := List.mem_of_getElem? hr
  obtain ⟨hok, hlg⟩ := check_rule hc hrm
  have hoky : okX p.offices true y = true := okX_sub hok hy
  rw [okX_eq, Bool.and_eq_true, Bool.and_eq_true] at hoky
  have hgd : p.rules.getD k ⟨[], 0, 0, .mk 0 0 0 [] []⟩ = r := by rw [List.getD_eq_getElem?_getD, hr]; rfl
  have hrs : (insteadF p k y).rules = p.rules.set k (setX r y) := by rw [insteadF, hgd]
  have hmem : ∀ q ∈ (insteadF p k y).rules, q ∈ p.rules ∨ q.x = y := fun q hq => (mem_instead hq).imp id fun h => h.1
  have hex : ∀ z ∈ exprs (insteadF p k y), z ∈ exprs p ∨ z = y := fun z hz => by
    rcases List.mem_append.1 hz with hz | hz
    · obtain ⟨q, hq, rfl⟩ := List.mem_map.1 hz
      rcases hmem q hq with h | h
      · exact .inl (List.mem_append_left _ (List.mem_map.2 ⟨q, h, rfl⟩))
      · exact .inr h
    · exact .inl (List.mem_append_right _ hz)
  obtain ⟨h1, h2, h3, h4, h5⟩ := check_ok hc
  refine ok_check ⟨?_, ?_, ?_, ?_, h5⟩
  · rw [sizedF, Bool.and_eq_true, decide_eq_true_eq, List.all_eq_true] at h1 ⊢
    refine ⟨⟨h1.1.1, h1.1.2.1, by rw [hrs, List.length_set]; exact h1.1.2.2⟩, fun z hz => ?_⟩
    rcases hex z hz with h | rfl
    · exact h1.2 z h
    · rw [large_sub hlg hy]; rfl
  · rw [namesF, Bool.and_eq_true, List.all_eq_true] at h2 ⊢
    refine ⟨h2.1, fun z hz => ?_⟩
    rcases hex z hz with h | rfl
    · exact h2.2 z h
    · exact hoky.2.1
  · rw [formedF, Bool.and_eq_true, Bool.and_eq_true, Bool.and_eq_true, decide_eq_true_eq, List.all_eq_true] at h3 ⊢
    refine ⟨⟨⟨?_, ?_⟩, fun q hq => ?_⟩, h3.2⟩
    · rw [hrs, List.length_set]; exact h3.1.1.1
    · rw [hrs, ruleF_set _ _ _ _ _ hr]; exact h3.1.1.2
    · rcases hmem q hq with h | h
      · exact h3.1.2 q h
      · rw [h]; exact hoky.1
  · rw [hrs]; exact resd_set _ _ _ _ _ _ hr hoky.2.2 h4
theorem ShX.sub {x y : Ex} (h : ShX x) (hy : y ∈ x.l) : ShX y := by cases x; exact h.mem y hy
theorem instead_sh {p : Pol} {k : Nat} {r : Rl} {y : Ex} (hp : ShP p) (hr : p.rules[k]? = some r) (hy : y ∈ r.x.l) : ShP (insteadF p k y) := by
  have hrm : r ∈ p.rules := List.mem_of_getElem? hr
  have hgd : p.rules.getD k ⟨[], 0, 0, .mk 0 0 0 [] []⟩ = r := by rw [List.getD_eq_getElem?_getD, hr]; rfl
  exact ⟨hp.name, hp.kinds, hp.kindsT, hp.offices, hp.officesT, by show (p.rules.set k _).length ≤ _; rw [List.length_set]; exact hp.rules,
    fun q hq => by
      rcases List.mem_or_eq_of_mem_set hq with h | h
      · exact hp.rulesX q h
      · rw [h]; exact (hp.rulesX r hrm).sub hy,
    fun q hq => by
      rcases List.mem_or_eq_of_mem_set hq with h | h
      · exact hp.rulesK q h
      · rw [h, hgd]; exact hp.rulesK r hrm, hp.change⟩
theorem instead_small {p : Pol} {k : Nat} {r : Rl} {y : Ex} (hs : ∀ x ∈ exprs p, sizeX x ≤ 1000) (hr : p.rules[k]? = some r) (hy : y ∈ r.x.l) : ∀ x ∈ exprs (insteadF p k y), sizeX x ≤ 1000 := fun z hz => by
  have hrm : r ∈ p.rules := List.mem_of_getElem? hr
  rcases List.mem_append.1 hz with hz | hz
  · obtain ⟨q, hq, rfl⟩ := List.mem_map.1 hz
    rcases mem_instead hq with h | h
    · exact hs _ (List.mem_append_left _ (List.mem_map.2 ⟨q, h, rfl⟩))
    · rw [h.1]
      have := hs r.x (List.mem_append_left _ (List.mem_map.2 ⟨r, hrm, rfl⟩))
      have := size_sub hy
      omega
  · exact hs z (List.mem_append_right _ hz)
theorem instead_perm {p : Pol} {kind value : Int} {hs : List (List Hd)} {who : List Int} {r : Rl} {y : Ex} (hc : checkF p = 0) (hk : 0 ≤ kind ∧ kind < p.kinds.length) (hv : 0 ≤ value ∧ value ≤ 1099511627776) (hH : holdersF hs p.offices.length = true) (hp : peopleF who = true) (hr : p.rules[kind.toNat]? = some r) (hy : y ∈ r.x.l) :
    permF (insteadF p kind.toNat y) kind value hs who = (fulF value hs who y, 0) := by
  have hgd : p.rules.getD kind.toNat ⟨[], 0, 0, .mk 0 0 0 [] []⟩ = r := by rw [List.getD_eq_getElem?_getD, hr]; rfl
  have hlt := (List.getElem?_eq_some_iff.1 hr).1
  exact perm_ok (p := insteadF p kind.toNat y) (r := setX r y) (instead_ok hc hr hy) hk hv hH hp (by rw [insteadF, hgd]; simp [hlt])
/-! ### The count of the parts -/
def nP (f : Ex → Bool) (of low : Bool) : Nat → List Ex → Int
  | _, [] => 0
  | i, y :: r => (if f y && (of || (decide (i = 0) == low)) then 1 else 0) + nP f of low (i + 1) r
theorem nP_app (f : Ex → Bool) (of low : Bool) : ∀ (i : Nat) (a : List Ex) (y : Ex), nP f of low i (a ++ [y]) = nP f of low i a + (if f y && (of || (decide (i + a.length = 0) == low)) then 1 else 0)
  | i, [], y => by simp [nP]
  | i, z :: a, y => by
    rw [List.cons_append, nP, nP, nP_app f of low (i + 1) a y, List.length_cons, show i + 1 + a.length = i + (a.length + 1) by omega]; omega
theorem nP_bd (f : Ex → Bool) (of low : Bool) : ∀ (i : Nat) (a : List Ex), 0 ≤ nP f of low i a ∧ nP f of low i a ≤ a.length
  | _, [] => by simp [nP]
  | i, y :: r => by have := nP_bd f of low (i + 1) r; rw [nP, List.length_cons]; split <;> omega
theorem nP_of (f : Ex → Bool) (low : Bool) : ∀ (i : Nat) (a : List Ex), nP f true low i a = cntT (a.map f)
  | _, [] => rfl
  | i, y :: r => by rw [nP, List.map_cons, cntT, nP_of f low (i + 1) r, Bool.true_or, Bool.and_true]
/-- The sum as the law adds it up. -/
def addW (y : Hd) (l : List Int) : Int := (l.map fun i => if i = y.person then y.weight else 0).sum
theorem addW_eq (y : Hd) {l : List Int} (h : l.Pairwise (· < ·)) : addW y l = if hasP l y.person then y.weight else 0 := by
  induction l with
  | nil => rfl
  | cons i r ih =>
    rw [List.pairwise_cons] at h
    have e : addW y (i :: r) = (if i = y.person then y.weight else 0) + addW y r := by simp [addW]
    rw [e, ih h.2]
    by_cases hi : i = y.person
    · have hno : hasP r y.person = false := by
        rw [hasP, decide_eq_false_iff_not]; intro hm
        have := h.1 _ hm; omega
      rw [hno, if_pos hi, if_neg (by decide), if_pos (by rw [hasP, decide_eq_true_eq]; simp [hi])]; omega
    · rw [if_neg hi, Int.zero_add]
      congr 1
      rw [hasP, hasP, decide_eq_true_eq, decide_eq_true_eq, List.mem_cons]
      exact propext ⟨.inr, fun h => h.resolve_left fun e => hi e.symm⟩
theorem any_sum {who : List Int} {l : List Hd} (h : ∀ y ∈ l, 1 ≤ y.weight ∧ y.weight ≤ 64) : anyH who l = decide (1 ≤ sumH who l) := by
  induction l with
  | nil => rfl
  | cons y r ih =>
    have h1 := h y (by simp)
    have h2 := sumH_bd who r fun z hz => h z (by simp [hz])
    have e : anyH who (y :: r) = (hasP who y.person || anyH who r) := List.any_cons
    rw [e, ih fun z hz => h z (by simp [hz]), sumH]
    cases hasP who y.person
    · rw [if_neg (by decide), Bool.false_or, Int.zero_add]
    · rw [if_pos rfl, Bool.true_or, decide_eq_true (by omega)]
end Go.Proofs.YtplllkjobpjaoaaDoor
