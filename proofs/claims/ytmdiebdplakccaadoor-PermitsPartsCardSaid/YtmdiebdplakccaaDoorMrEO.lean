/- Texts joined: PerO, PerQ. No conditions. -/
import Derived.Test.YtmdiebdplakccaaDoorMrEN
/- PermitsParts, the law. No conditions. -/
set_option linter.unusedSimpArgs false
set_option linter.unusedVariables false
namespace Go.Proofs.YtmdiebdplakccaaDoor
open Go Go.Proofs Go.Abs

/-! ### The policy with another expression -/
theorem size_sub {x y : Ex} (hy : y ∈ x.l) : sizeX y ≤ sizeX x := by
  cases x; rw [sizeX]; have := size_mem (show y ∈ _ from hy); exact Nat.le_succ_of_le this
theorem depth_mem {x : Ex} : ∀ {l : List Ex}, x ∈ l → depthX x ≤ depthXs l
  | y :: r, h => by
    rw [depthXs]
    rcases List.mem_cons.1 h with rfl | h
    · omega
    · have := depth_mem h; omega
theorem depth_sub {x y : Ex} (hy : y ∈ x.l) : depthX y ≤ depthX x := by
  cases x; rw [depthX]; have := depth_mem (show y ∈ _ from hy); exact Nat.le_succ_of_le this
theorem large_sub {x y : Ex} (h : largeF x = false) (hy : y ∈ x.l) : largeF y = false := by
  have h1 := size_sub hy
  have h2 := depth_sub hy
  simp only [largeF, Bool.or_eq_false_iff, decide_eq_false_iff_not] at h ⊢
  omega
theorem ruleF_set : ∀ (ks : List Tx) (rs : List Rl) (k : Nat) (r : Rl) (x : Ex), rs[k]? = some r → ruleF ks (rs.set k (setX r x)) = ruleF ks rs
  | [], [], _, _, _, h => by simp at h
  | [], _ :: _, k, r, x, _ => by cases k <;> rfl
  | _ :: _, [], _, _, _, h => by simp at h
  | c :: ks, q :: rs, 0, r, x, h => by
    simp only [List.getElem?_cons_zero, Option.some.injEq] at h; subst h; rfl
  | c :: ks, q :: rs, k + 1, r, x, h => by
    simp only [List.getElem?_cons_succ] at h
    rw [List.set_cons_succ, ruleF, ruleF, ruleF_set ks rs k r x h]
theorem resd_set (o : List Tx) : ∀ (i : Int) (rs : List Rl) (k : Nat) (r : Rl) (x : Ex), rs[k]? = some r → resdF o x = true → resdRs o i rs = true → resdRs o i (rs.set k (setX r x)) = true
  | _, [], _, _, _, h, _, _ => by simp at h
  | i, q :: rs, 0, r, x, h, hx, hr => by
    simp only [List.getElem?_cons_zero, Option.some.injEq] at h
    subst h
    rw [resdRs, Bool.and_eq_true, Bool.and_eq_true] at hr
    rw [List.set_cons_zero, resdRs, Bool.and_eq_true, Bool.and_eq_true]
    exact ⟨⟨hr.1.1, hx⟩, hr.2⟩
  | i, q :: rs, k + 1, r, x, h, hx, hr => by
    simp only [List.getElem?_cons_succ] at h
    rw [resdRs, Bool.and_eq_true] at hr
    rw [List.set_cons_succ, resdRs, Bool.and_eq_true]
    exact ⟨hr.1, resd_set o (i + 1) rs k r x h hx hr.2⟩
theorem mem_instead {p : Pol} {k : Nat} {y : Ex} {q : Rl} (hq : q ∈ (insteadF p k y).rules) : q ∈ p.rules ∨ (q.x = y ∧ ∃ r, q.kind = r ∧ (k < p.rules.length → r = (p.rules.getD k ⟨[], 0, 0, .mk 0 0 0 [] []⟩).kind)) := by
  rcases List.mem_or_eq_of_mem_set hq with h | h
  · exact .inl h
  · right; subst h; exact ⟨rfl, _, rfl, fun _ => rfl⟩
theorem instead_ok {p : Pol} {k : Nat} {r : Rl} {y : Ex} (hc : checkF p = 0) (hr : p.rules[k]? = some r) (hy : y ∈ r.x.l) : checkF (insteadF p k y) = 0 := by
  have hrm : r ∈ p.rules := List.mem_of_getElem? hr
  obtain ⟨hok, hlg⟩ := check_rule hc hrm
  have hoky : okX p.offices true y = true := okX_sub hok hy
  rw [okX_eq, Bool.and_eq_true, Bool.and_eq_true] at hoky
  have hgd : p.rules.getD k ⟨[], 0, 0, .mk 0 0 0 [] []⟩ = r := by rw [List.getD_eq_getElem?_getD, hr]; rfl
  have hrs : (insteadF p k y).rules = p.rules.set k (setX r y) := by rw [insteadF, hgd]
  have hmem : ∀ q ∈ (insteadF p k y).rules, q ∈ p.rules ∨ q.x = y := fun q hq => (mem_instead hq).imp id fun h => h.1
  have hex : ∀ z ∈ exprs (insteadF p k y), z ∈ exprs p ∨ z = y := fun z hz => by
    rcases List.mem_append.1 hz with hz | hz
    · obtain ⟨q, hq, rfl⟩ := List.mem_map.1 hz
      rcases hmem q hq with h | h
      · exact .inl (List.mem_append_left _ (List.mem_map.2 ⟨q, h, rfl⟩))
      · exact .inr h
    · exact .inl (List.mem_append_right _ hz)
  obtain ⟨h1, h2, h3, h4, h5⟩ := check_ok hc
  refine ok_check ⟨?_, ?_, ?_, ?_, h5⟩
  · rw [sizedF, Bool.and_eq_true, decide_eq_true_eq, List.all_eq_true] at h1 ⊢
    refine ⟨⟨h1.1.1, h1.1.2.1, by rw [hrs, List.length_set]; exact h1.1.2.2⟩, fun z hz => ?_⟩
    rcases hex z hz with h | rfl
    · exact h1.2 z h
    · rw [large_sub hlg hy]; rfl
  · rw [namesF, Bool.and_eq_true, List.all_eq_true] at h2 ⊢
    refine ⟨h2.1, fun z hz => ?_⟩
    rcases hex z hz with h | rfl
    · exact h2.2 z h
    · exact hoky.2.1
  · rw [formedF, Bool.and_eq_true, Bool.and_eq_true, Bool.and_eq_true, decide_eq_true_eq, List.all_eq_true] at h3 ⊢
    refine ⟨⟨⟨?_, ?_⟩, fun q hq => ?_⟩, h3.2⟩
    · rw [hrs, List.length_set]; exact h3.1.1.1
    · rw [hrs, ruleF_set _ _ _ _ _ hr]; exact h3.1.1.2
    · rcases hmem q hq with h | h
      · exact h3.1.2 q h
      · rw [h]; exact hoky.1
  · rw [hrs]; exact resd_set _ _ _ _ _ _ hr hoky.2.2 h4
theorem ShX.sub {x y : Ex} (h : ShX x) (hy : y ∈ x.l) : ShX y := by cases x; exact h.mem y hy
theorem instead_sh {p : Pol} {k : Nat} {r : Rl} {y : Ex} (hp : ShP p) (hr : p.rules[k]? = some r) (hy : y ∈ r.x.l) : ShP (insteadF p k y) := by
  have hrm : r ∈ p.rules := List.mem_of_getElem? hr
  have hgd : p.rules.getD k ⟨[], 0, 0, .mk 0 0 0 [] []⟩ = r := by rw [List.getD_eq_getElem?_getD, hr]; rfl
  exact ⟨hp.name, hp.kinds, hp.kindsT, hp.offices, hp.officesT, by show (p.rules.set k _).length ≤ _; rw [List.length_set]; exact hp.rules,
    fun q hq => by
      rcases List.mem_or_eq_of_mem_set hq with h | h
      · exact hp.rulesX q h
      · rw [h]; exact (hp.rulesX r hrm).sub hy,
    fun q hq => by
      rcases List.mem_or_eq_of_mem_set hq with h | h
      · exact hp.rulesK q h
      · rw [h, hgd]; exact hp.rulesK r hrm, hp.change⟩
theorem instead_small {p : Pol} {k : Nat} {r : Rl} {y : Ex} (hs : ∀ x ∈ exprs p, sizeX x ≤ 1000) (hr : p.rules[k]? = some r) (hy : y ∈ r.x.l) : ∀ x ∈ exprs (insteadF p k y), sizeX x ≤ 1000 := fun z hz => by
  have hrm : r ∈ p.rules := List.mem_of_getElem? hr
  rcases List.mem_append.1 hz with hz | hz
  · obtain ⟨q, hq, rfl⟩ := List.mem_map.1 hz
    rcases mem_instead hq with h | h
    · exact hs _ (List.mem_append_left _ (List.mem_map.2 ⟨q, h, rfl⟩))
    · rw [h.1]
      have := hs r.x (List.mem_append_left _ (List.mem_map.2 ⟨r, hrm, rfl⟩))
      have := size_sub hy
      omega
  · exact hs z (List.mem_append_right _ hz)
theorem instead_perm {p : Pol} {kind value : Int} {hs : List (List Hd)} {who : List Int} {r : Rl} {y : Ex} (hc : checkF p = 0) (hk : 0 ≤ kind ∧ kind < p.kinds.length) (hv : 0 ≤ value ∧ value ≤ 1099511627776) (hH : holdersF hs p.offices.length = true) (hp : peopleF who = true) (hr : p.rules[kind.toNat]? = some r) (hy : y ∈ r.x.l) :
    permF (insteadF p kind.toNat y) kind value hs who = (fulF value hs who y, 0) := by
  have hgd : p.rules.getD kind.toNat ⟨[], 0, 0, .mk 0 0 0 [] []⟩ = r := by rw [List.getD_eq_getElem?_getD, hr]; rfl
  have hlt := (List.getElem?_eq_some_iff.1 hr).1
  exact perm_ok (p := insteadF p kind.toNat y) (r := setX r y) (instead_ok hc hr hy) hk hv hH hp (by rw [insteadF, hgd]; simp [hlt])
/-! ### The count of the parts -/
def nP (f : Ex → Bool) (of low : Bool) : Nat → List Ex → Int
  | _, [] => 0
  | i, y :: r => (if f y && (of || (decide (i = 0) == low)) then 1 else 0) + nP f of low (i + 1) r
theorem nP_app (f : Ex → Bool) (of low : Bool) : ∀ (i : Nat) (a : List Ex) (y : Ex), nP f of low i (a ++ [y]) = nP f of low i a + (if f y && (of || (decide (i + a.length = 0) == low)) then 1 else 0)
  | i, [], y => by simp [nP]
  | i, z :: a, y => by
    rw [List.cons_append, nP, nP, nP_app f of low (i + 1) a y, List.length_cons, show i + 1 + a.length = i + (a.length + 1) by omega]; omega
theorem nP_bd (f : Ex → Bool) (of low : Bool) : ∀ (i : Nat) (a : List Ex), 0 ≤ nP f of low i a ∧ nP f of low i a ≤ a.length
  | _, [] => by simp [nP]
  | i, y :: r => by have := nP_bd f of low (i + 1) r; rw [nP, List.length_cons]; split <;> omega
theorem nP_of (f : Ex → Bool) (low : Bool) : ∀ (i : Nat) (a : List Ex), nP f true low i a = cntT (a.map f)
  | _, [] => rfl
  | i, y :: r => by rw [nP, List.map_cons, cntT, nP_of f low (i + 1) r, Bool.true_or, Bool.and_true]
/-- The sum as the law adds it up. -/
def addW (y : Hd) (l : List Int) : Int := (l.map fun i => if i = y.person then y.weight else 0).sum
theorem addW_eq (y : Hd) {l : List Int} (h : l.Pairwise (· < ·)) : addW y l = if hasP l y.person then y.weight else 0 := by
  induction l with
  | nil => rfl
  | cons i r ih =>
    rw [List.pairwise_cons] at h
    have e : addW y (i :: r) = (if i = y.person then y.weight else 0) + addW y r := by simp [addW]
    rw [e, ih h.2]
    by_cases hi : i = y.person
    · have hno : hasP r y.person = false := by
        rw [hasP, decide_eq_false_iff_not]; intro hm
        have := h.1 _ hm; omega
      rw [hno, if_pos hi, if_neg (by decide), if_pos (by rw [hasP, decide_eq_true_eq]; simp [hi])]; omega
    · rw [if_neg hi, Int.zero_add]
      congr 1
      rw [hasP, hasP, decide_eq_true_eq, decide_eq_true_eq, List.mem_cons]
      exact propext ⟨.inr, fun h => h.resolve_left fun e => hi e.symm⟩
theorem any_sum {who : List Int} {l : List Hd} (h : ∀ y ∈ l, 1 ≤ y.weight ∧ y.weight ≤ 64) : anyH who l = decide (1 ≤ sumH who l) := by
  induction l with
  | nil => rfl
  | cons y r ih =>
    have h1 := h y (by simp)
    have h2 := sumH_bd who r fun z hz => h z (by simp [hz])
    have e : anyH who (y :: r) = (hasP who y.person || anyH who r) := List.any_cons
    rw [e, ih fun z hz => h z (by simp [hz]), sumH]
    cases hasP who y.person
    · rw [if_neg (by decide), Bool.false_or, Int.zero_add]
    · rw [if_pos rfl, Bool.true_or, decide_eq_true (by omega)]
end Go.Proofs.YtmdiebdplakccaaDoor

/- PermitsParts, the law's code. No conditions. -/
set_option linter.unusedSimpArgs false
set_option linter.unusedVariables false
namespace Go.Proofs.YtmdiebdplakccaaDoor
open Go Go.Proofs Go.Abs

set_option maxHeartbeats 4000000 in
set_option maxRecDepth 100000 in
theorem permitsParts_calls (Γ : Nat → Option (List AV)) (hΓ : Γ 0 = some kindsC) (p : Pol) (kind value : Int) (hs : List (List Hd)) (who : List Int) (h : AH) (hp : ShP p) (H : ShH hs) (hw : who.length ≤ 9223372036854775807) :
    ACalls Tryd.prog Γ 5 [encPol p, .int .i64 kind, .int .i64 value, .sl (encHl hs) .free, .sl (encI who) .free] h fun v h' => h' = h ∧ v = .bool true := by
  have c1 := fun h => right21_calls Γ p kind value hs who h hp H hw
  have hsz : fewF p hs = true → ∀ x ∈ exprs p, sizeX x ≤ 1000 := fun hf x hx => by have := (few_szs hf).1 x hx; omega
  have hrl : fewF p hs = true → p.rules.length ≤ 20 := fun hf => (few_szs hf).2.1
  have c2 := fun h (hf : fewF p hs = true) (S : Szs hs who) => permits_calls Γ hΓ p kind value hs who h hp (hsz hf) (by have := hrl hf; omega) S
  refine ACalls.drop ?_
  rw [encPol_eq] at *
  refine acalls_code (rs := [.tmp 10]) Tryd.func5 rfl rfl rfl rfl Ty.mixed (by kernel_rfl) ?_
  simp (disch := omega) only [go_sem, seval]
  refine ACalls.det (sane21_calls Γ hΓ _) ?_
  simp (disch := omega) only [go_sem, seval]
  refine ACalls.det (c1 _) ?_
  cases h1 : rightF p kind value hs who <;> simp (disch := omega) only [go_sem, seval]
  obtain ⟨f1, f2, f3, f4, f5, f6⟩ := rightF_facts h1
  obtain ⟨r, hr, e1, hrm⟩ := rule_at f3 ⟨f4.1, f4.2.1⟩
  have hok := (check_rule f3 hrm).1
  have hS : Szs hs who := few_S f1 (by omega)
  have c3 := fun h => c2 h f1 hS
  rw [perm_ok f3 ⟨f4.1, f4.2.1⟩ f4.2.2 f5 f6 hr, encB2] at c3
  refine ACalls.det (c3 _) ?_
  have hxl : r.x.l.length ≤ 300 := by
    have h1 := (few_szs f1).1 r.x (List.mem_append_left _ (List.mem_map.2 ⟨r, hrm, rfl⟩))
    have h2 : r.x.l.length < sizeX r.x := by cases hx : r.x with | mk _ _ _ _ l => have := sizes_len l; rw [sizeX]; show l.length < _; omega
    omega
  rw [encRl_eq] at e1
  simp (disch := omega) only [go_sem, seval]
  refine ⟨by omega, ?_⟩
  rw [e1]
  simp (disch := omega) only [go_sem, seval, List.length_map]
  obtain ⟨K, hK⟩ : ∃ K : AH, K = h ++ [.row [.str ⟨⟨p.name⟩⟩, .sl (encT p.kinds) .free, .sl (encT p.offices) .free, .sl (p.rules.map encRl) .free, .int .i64 p.change.k, .int .i64 p.change.n, .int .i64 p.change.no, .str ⟨⟨p.change.name⟩⟩, .sl (p.change.l.map encX) .free, .int .i64 p.mode] 28, .row [.int .i64 r.x.k, .int .i64 r.x.n, .int .i64 r.x.no, .str ⟨⟨r.x.name⟩⟩, .sl (r.x.l.map encX) .free] 26] := ⟨_, rfl⟩
  have g0 : ∀ l, (K ++ l)[h.length]? = some (.row [.str ⟨⟨p.name⟩⟩, .sl (encT p.kinds) .free, .sl (encT p.offices) .free, .sl (p.rules.map encRl) .free, .int .i64 p.change.k, .int .i64 p.change.n, .int .i64 p.change.no, .str ⟨⟨p.change.name⟩⟩, .sl (p.change.l.map encX) .free, .int .i64 p.mode] 28) := fun l => by rw [hK]; simp
  have g1 : ∀ l, (K ++ l)[h.length + 1]? = some (.row [.int .i64 r.x.k, .int .i64 r.x.n, .int .i64 r.x.no, .str ⟨⟨r.x.name⟩⟩, .sl (r.x.l.map encX) .free] 26) := fun l => by rw [hK]; simp
  rw [← hK]
  obtain ⟨f, hf⟩ : ∃ f : Ex → Bool, f = fulF value hs who := ⟨_, rfl⟩
  obtain ⟨of, hof⟩ : ∃ of : Bool, of = decide (r.x.k = 3) := ⟨_, rfl⟩
  obtain ⟨low, hlow⟩ : ∃ low : Bool, low = decide (value ≤ r.x.n) := ⟨_, rfl⟩
  obtain ⟨k, rfl⟩ : ∃ k : Nat, kind = k := ⟨kind.toNat, by omega⟩
  rw [Int.toNat_natCast] at hr e1
  have hkr : k < p.rules.length := (List.getElem?_eq_some_iff.1 hr).1
  refine awp_loopL (β := AH) r.x.l [1, 2, 3, 4, 5, 11, 13, 14, 51, 52, 53] (fun dn _ => [(1, .int .i64 k), (2, .int .i64 value), (3, .sl (encHl hs) .free), (4, .sl (encI who) .free), (5, .ptr (some (h.length, 0))), (11, .bool (fulF value hs who r.x)), (13, .ptr (some (h.length + 1, 0))), (14, .int .i64 (nP f of low 0 dn)), (51, .sl (r.x.l.map encX) .free), (52, .int .i64 r.x.l.length), (53, .int .i64 dn.length)]) (fun j => K ++ j) (fun _ _ _ => True) [] ?_ (by simp) trivial Ty.mixed (by kernel_rfl) ?_ ?_
  · simp (disch := omega) only [go_sem, seval, List.length_nil]
    rfl
  · rintro dn y r2 j hdn -
    have hlen : r.x.l.length = dn.length + 1 + r2.length := by rw [hdn]; simp; omega
    have e2 : (r.x.l.map encX)[dn.length]? = some (encX y) := by rw [hdn]; exact rowMid ..
    have hy : y ∈ r.x.l := by rw [hdn]; simp
    have hb := nP_bd f of low 0 dn
    have hn := nP_app f of low 0 dn y
    rw [Nat.zero_add] at hn
    have c4 := fun h => instead_calls Γ p k y h hkr (by have := hrl f1; omega)
    have c5 := fun h => permits_calls Γ hΓ (insteadF p k y) k value hs who h (instead_sh hp hr hy) (instead_small (hsz f1) hr hy) (by show (p.rules.set k _).length ≤ _; rw [List.length_set]; have := hrl f1; omega) hS
    have hpm := instead_perm (kind := (k : Int)) (value := value) (hs := hs) (who := who) f3 ⟨f4.1, f4.2.1⟩ f4.2.2 f5 f6 (by rw [Int.toNat_natCast]; exact hr) hy
    rw [Int.toNat_natCast] at hpm
    rw [hpm, encB2, ← hf] at c5
    rw [encPol_eq p, encX_eq] at c4
    rw [encX_eq] at e2
    simp (disch := omega) only [go_sem, seval, List.length_map]
    refine aIf.pos (by omega) ?_
    simp (disch := omega) only [go_sem, seval, e2, g0, g1]
    refine ACalls.det (c4 _) ?_
    simp (disch := omega) only [go_sem, seval, g0, g1]
    refine ACalls.det (c5 _) ?_
    simp (disch := omega) only [go_sem, seval, g0, g1]
    cases hfy : f y <;> rw [hfy] at hn <;> simp (disch := omega) only [go_sem, seval, g0, g1]
    · rw [Bool.false_and, if_neg (by decide), Int.add_zero] at hn
      refine roundL_next (j ++ [.row [.int .i64 y.k, .int .i64 y.n, .int .i64 y.no, .str ⟨⟨y.name⟩⟩, .sl (y.l.map encX) .free] 26]) trivial ?_ ?_
      · simp (disch := omega) only [go_sem, seval, List.length_append, hn]
      · simp
    rw [Bool.true_and] at hn
    refine aIf.intro (fun h3 => ?_) (fun h3 => ?_) <;> simp (disch := omega) only [go_sem, seval, g0, g1]
    · rw [hof, decide_eq_true h3, Bool.true_or, if_pos rfl] at hn
      rw [← decide_eq_true h3, ← hof] at hn
      refine roundL_next (j ++ [.row [.int .i64 y.k, .int .i64 y.n, .int .i64 y.no, .str ⟨⟨y.name⟩⟩, .sl (y.l.map encX) .free] 26]) trivial ?_ ?_
      · simp (disch := omega) only [go_sem, seval, List.length_append, hn]
      · simp
    · have hof2 : of = false := by rw [hof, decide_eq_false h3]
      rw [hof2, Bool.false_or] at hn
      rw [← hof2, hlow] at hn
      have hdd : decide ((dn.length : Int) = 0) = decide (dn.length = 0) := decide_eq_decide.2 (by omega)
      rw [hdd]
      cases hbb : (decide (dn.length = 0) == decide (value ≤ r.x.n)) <;> rw [hbb] at hn <;> simp (disch := omega) only [go_sem, seval]
      · rw [if_neg (by decide), Int.add_zero, ← hlow] at hn
        refine roundL_next (j ++ [.row [.int .i64 y.k, .int .i64 y.n, .int .i64 y.no, .str ⟨⟨y.name⟩⟩, .sl (y.l.map encX) .free] 26]) trivial ?_ ?_
        · simp (disch := omega) only [go_sem, seval, List.length_append, hn]
        · simp
      · rw [if_pos rfl, ← hlow] at hn
        refine roundL_next (j ++ [.row [.int .i64 y.k, .int .i64 y.n, .int .i64 y.no, .str ⟨⟨y.name⟩⟩, .sl (y.l.map encX) .free] 26]) trivial ?_ ?_
        · simp (disch := omega) only [go_sem, seval, List.length_append, hn]
        · simp
  · rintro j -
    simp (disch := omega) only [go_sem, seval, List.length_map]
    refine AWP.keep [1, 2, 3, 4, 5, 11, 13, 14] (aCode_ok Ty.mixed _ _ _ _ (by kernel_rfl) ?_)
    simp (disch := omega) only [go_sem, seval, g0, g1]
    have hd := fulF_eq value hs who r.x
    rw [← hf] at hd ⊢
    have htop := okX_top hok
    have hk4 := okF_kind htop
    refine aIf.intro (fun h3 => ?_) (fun h3 => ?_) <;> simp (disch := omega) only [go_sem, seval, g0, g1]
    · rw [if_neg (by omega), if_neg (by omega), if_pos h3] at hd
      have hof2 : of = true := by rw [hof, decide_eq_true h3]
      rw [hd, hof2, nP_of]
      exact ⟨⟨_, by rw [hK, List.append_assoc]⟩, by simp⟩
    have hof2 : of = false := by rw [hof, decide_eq_false h3]
    refine aIf.intro (fun h4 => ?_) (fun h4 => ?_) <;> simp (disch := omega) only [go_sem, seval, g0, g1]
    · rw [if_neg (by omega), if_neg (by omega), if_neg (by omega)] at hd
      obtain ⟨a, b, hab⟩ : ∃ a b, r.x.l = [a, b] := by
        have hl := (okF_upto htop h4).1
        match hx : r.x.l with
        | [] => rw [hx] at hl; cases hl
        | [_] => rw [hx] at hl; cases hl
        | [a, b] => exact ⟨a, b, rfl⟩
        | _ :: _ :: _ :: _ => rw [hx] at hl; simp at hl
      refine ⟨⟨_, by rw [hK, List.append_assoc]⟩, ?_⟩
      congr 1
      rw [hd, hof2, hab, hlow]
      by_cases hv : value ≤ r.x.n
      · rw [if_pos hv, decide_eq_true hv]
        cases ha : f a <;> cases hb : f b <;> simp [nP, ha, hb]
      · rw [if_neg hv, decide_eq_false hv]
        cases ha : f a <;> cases hb : f b <;> simp [nP, ha, hb]
    have hnm := okF_named htop (by omega)
    have hlen : (hs.length : Int) = p.offices.length := (hd_ok f5 f6).2
    refine aIf.neg (by omega) ?_
    simp (disch := omega) only [go_sem, seval, g0, g1, encHl_len]
    refine aIf.neg (by omega) ?_
    simp (disch := omega) only [go_sem, seval, g0, g1]
    refine ⟨by omega, ?_⟩
    have e3 : (encHl hs)[r.x.no.toNat]? = some (.sl ((rowH hs r.x.no).map encHd) .free) := by
      have : r.x.no.toNat < hs.length := by omega
      rw [encHl, List.getElem?_map, rowH, List.getD_eq_getElem?_getD, List.getElem?_eq_getElem this]; rfl
    have HO := (hd_ok f5 f6).1
    have hrm2 : rowH hs r.x.no ∈ hs := rowH_mem ⟨hnm.1, by omega⟩
    have hrl2 := HO.len _ hrm2
    have hrw2 := HO.wt _ hrm2
    rw [e3]
    generalize rowH hs r.x.no = l at *
    simp (disch := omega) only [go_sem, seval, List.length_map]
    refine awp_loopL (β := AH) l [4, 11, 13, 19, 120, 121, 122] (fun dn _ => [(4, .sl (encI who) .free), (11, .bool (f r.x)), (13, .ptr (some (h.length + 1, 0))), (19, .int .i64 (sumH who dn)), (120, .sl (l.map encHd) .free), (121, .int .i64 l.length), (122, .int .i64 dn.length)]) (fun j => K ++ j) (fun _ _ _ => True) j ?_ rfl trivial Ty.mixed (by kernel_rfl) ?_ ?_
    · simp (disch := omega) only [go_sem, seval, List.length_nil, sumH]
    · rintro dn y r2 j2 hdn -
      have hlen2 : l.length = dn.length + 1 + r2.length := by rw [hdn]; simp; omega
      have e4 : (l.map encHd)[dn.length]? = some (encHd y) := by rw [hdn]; exact rowMid ..
      have hb1 := sumH_bd who dn fun z hz => hrw2 z (by rw [hdn]; simp [hz])
      have hb2 := hrw2 y (by rw [hdn]; simp)
      rw [encHd] at e4
      simp (disch := omega) only [go_sem, seval, List.length_map]
      refine aIf.pos (by omega) ?_
      simp (disch := omega) only [go_sem, seval, e4, encI_len]
      have gy : (K ++ (j2 ++ [.row [.int .i64 y.person, .int .i64 y.weight] 44]))[K.length + j2.length]? = some (.row [.int .i64 y.person, .int .i64 y.weight] 44) := by
        rw [← List.append_assoc, ← List.length_append]; simp
      refine awp_loopL (β := Unit) who [4, 11, 13, 19, 21, 120, 121, 122, 126, 127, 128] (fun dm _ => [(4, .sl (encI who) .free), (11, .bool (f r.x)), (13, .ptr (some (h.length + 1, 0))), (19, .int .i64 (sumH who dn + addW y dm)), (21, .ptr (some (K.length + j2.length, 0))), (120, .sl (l.map encHd) .free), (121, .int .i64 l.length), (122, .int .i64 dn.length), (126, .sl (encI who) .free), (127, .int .i64 who.length), (128, .int .i64 dm.length)]) (fun _ => K ++ (j2 ++ [.row [.int .i64 y.person, .int .i64 y.weight] 44])) (fun _ _ _ => True) () ?_ rfl trivial Ty.mixed (by kernel_rfl) ?_ ?_
      · simp (disch := omega) only [go_sem, seval, List.length_nil]
        rw [show addW y [] = 0 from rfl, Int.add_zero]
      · rintro dm i r3 _ hdm -
        have hlen3 : who.length = dm.length + 1 + r3.length := by rw [hdm]; simp; omega
        have e5 : (encI who)[dm.length]? = some (.int .i64 i) := by rw [hdm]; exact encI_get dm r3 i
        have hpw : dm.Pairwise (· < ·) := by have := HO.pw; rw [hdm] at this; exact (List.pairwise_append.1 this).1
        have hb3 : 0 ≤ addW y dm ∧ addW y dm ≤ 64 := by rw [addW_eq y hpw]; split <;> omega
        have hn : addW y (dm ++ [i]) = addW y dm + (if i = y.person then y.weight else 0) := by simp [addW]
        simp (disch := omega) only [go_sem, seval, encI_len]
        refine aIf.pos (by omega) ?_
        simp (disch := omega) only [go_sem, seval, e5, gy]
        refine aIf.intro (fun h5 => ?_) (fun h5 => ?_) <;> simp (disch := omega) only [go_sem, seval, gy]
        · rw [if_pos h5] at hn
          refine roundL_next () trivial ?_ rfl
          simp (disch := omega) only [go_sem, seval, List.length_append, hn, Int.add_assoc]
        · rw [if_neg h5, Int.add_zero] at hn
          refine roundL_next () trivial ?_ rfl
          simp (disch := omega) only [go_sem, seval, List.length_append, hn]
      · rintro _ -
        simp (disch := omega) only [go_sem, seval, encI_len]
        refine AWP.keep [4, 11, 13, 19, 120, 121, 122] (aCode_ok Ty.mixed _ _ _ _ (by kernel_rfl) ?_)
        simp (disch := omega) only [go_sem, seval]
        have hn : sumH who (dn ++ [y]) = sumH who dn + addW y who := by rw [sumH_app, addW_eq y HO.pw]; simp [sumH]
        refine roundL_next (j2 ++ [.row [.int .i64 y.person, .int .i64 y.weight] 44]) trivial ?_ rfl
        simp (disch := omega) only [go_sem, seval, List.length_append, hn]
    · rintro j2 -
      simp (disch := omega) only [go_sem, seval, List.length_map]
      refine AWP.keep [11, 13, 19] (aCode_ok Ty.mixed _ _ _ _ (by kernel_rfl) ?_)
      simp (disch := omega) only [go_sem, seval, g1]
      refine ⟨⟨_, by rw [hK, List.append_assoc]⟩, ?_⟩
      obtain e | e : r.x.k = 1 ∨ r.x.k = 2 := by omega
      · have hn0 := (okF_some htop e).1
        rw [if_pos e, any_sum hrw2] at hd
        rw [hd, if_neg (by omega)]; simp
      · have hn1 := okF_weight htop e
        rw [if_neg (by omega), if_pos e] at hd
        have hmx : (if 1 < r.x.n then r.x.n else 1) = r.x.n := by split <;> omega
        rw [hd, hmx]; simp
end Go.Proofs.YtmdiebdplakccaaDoor
