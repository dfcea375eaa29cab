/- Texts joined: SucA, SucB, SucC, SucD, SucE. No conditions. -/
import Derived.Test.YtaepdkjfaeepmaaMrF
import Derived.Test.YtaepdkjfaeepmaaMrG
import Derived.Test.YtaepdkjfaeepmaaMrDA
/- Estates; the reference's heir, heirs, price, member, power. No conditions. -/
set_option linter.unusedSimpArgs false
set_option linter.unusedVariables false
namespace Go.Proofs.Ytaepdkjfaeepmaa
open Go Go.Proofs Go.Abs

def encI (l : List Int) : List AV := l.map fun i => .int .i64 i
theorem encI_len (l : List Int) : (encI l).length = l.length := by simp [encI]
structure Hr where
  person : Int
  join : Int
  leave : Int
  deriving DecidableEq
structure Es where
  heirs : List Hr
  members : List Int
  needs : List Int
  alive : List Int
  never : List (List Int)
def encH (x : Hr) : AV := .agg [.int .i64 x.person, .int .i64 x.join, .int .i64 x.leave]
def encHs (l : List Hr) : List AV := l.map encH
def encNv (l : List (List Int)) : List AV := l.map fun s => .sl (encI s) .free
def esC (s : Es) : List AV := [.sl (encHs s.heirs) .free, .sl (encI s.members) .free, .sl (encI s.needs) .free, .sl (encI s.alive) .free, .sl (encNv s.never) .free]
def encEs (s : Es) : AV := .agg (esC s)
theorem encHs_len (l : List Hr) : (encHs l).length = l.length := by simp [encHs]
theorem encNv_len (l : List (List Int)) : (encNv l).length = l.length := by simp [encNv]
theorem encHs_get (a r : List Hr) (x : Hr) : (encHs (a ++ x :: r))[a.length]? = some (encH x) := by simp [encHs]
theorem encNv_get (a r : List (List Int)) (x : List Int) : (encNv (a ++ x :: r))[a.length]? = some (.sl (encI x) .free) := by simp [encNv]
theorem encI_at (a r : List Int) (x : Int) : (encI (a ++ x :: r))[a.length]? = some (.int .i64 x) := by simp [encI]
/-- An heir's index, -1 for a stranger. -/
def heirI : List Hr → Int → Int
  | [], _ => -1
  | x :: r, p => if x.person = p then 0 else if heirI r p < 0 then -1 else heirI r p + 1
theorem heirI_skip (p : Int) : ∀ (a l : List Hr), (∀ y ∈ a, y.person ≠ p) → heirI (a ++ l) p = if heirI l p < 0 then -1 else heirI l p + a.length
  | [], l, _ => by
    have h : ∀ l, -1 ≤ heirI l p := fun l => by
      induction l with
      | nil => exact Int.le_refl _
      | cons x r ih =>
        rw [heirI]
        split
        · omega
        · split <;> omega
    have := h l
    rw [List.nil_append]
    simp only [List.length_nil]
    split <;> omega
  | y :: a, l, h => by
    rw [List.cons_append, heirI, if_neg (h y (by simp)), heirI_skip p a l fun z hz => h z (by simp [hz])]
    by_cases hl : heirI l p < 0
    · rw [if_pos hl, if_pos hl]; rfl
    · rw [if_neg hl, if_neg hl, if_neg (by omega)]; simp; omega
set_option maxRecDepth 100000 in
theorem rheir_calls (Γ : Nat → Option (List AV)) (s : Es) (p : Int) (h : AH) (hl : s.heirs.length ≤ 9223372036854775807) :
    ACalls Try.prog Γ 41 [encEs s, .int .i64 p] h fun v h' => h' = h ∧ v = .int .i64 (heirI s.heirs p) := by
  refine ACalls.drop ?_
  simp only [encEs, esC]
  refine acalls_code (rs := [.tmp 4]) Try.func41 rfl rfl rfl rfl Ty.mixed (by kernel_rfl) ?_
  simp (disch := omega) only [go_sem, seval]
  refine awp_loopL (β := Unit) s.heirs [1, 2, 5] (fun don _ => [(1, .int .i64 p), (2, .ptr (some (h.length, 0))), (5, .int .i64 don.length)]) (fun _ => h ++ [.row (esC s) 26]) (fun don _ _ => ∀ y ∈ don, y.person ≠ p) () ?_ rfl (by simp) Ty.mixed (by kernel_rfl) ?_ ?_
  · simp (disch := omega) only [go_sem, seval]
  · rintro don x r _ hd ho
    have hlen : s.heirs.length = don.length + 1 + r.length := by rw [hd]; simp; omega
    have e1 : (encHs s.heirs)[don.length]? = some (encH x) := by rw [hd]; exact encHs_get don r x
    simp only [encH, esC] at e1 ⊢
    simp (disch := omega) only [go_sem, seval, encHs_len]
    refine aIf.pos (by omega) ?_
    simp (disch := omega) only [go_sem, seval, e1, encHs_len]
    refine aIf.intro (fun h1 => ?_) (fun h1 => ?_) <;> simp (disch := omega) only [go_sem, seval]
    · rw [hd, heirI_skip p don _ ho, heirI, if_pos h1]; simp
    · refine roundL_next () ?_ ?_ rfl
      · intro y hy
        rcases List.mem_append.1 hy with hy | hy
        · exact ho y hy
        · rw [List.mem_singleton] at hy; subst hy; exact h1
      · simp (disch := omega) only [go_sem, seval, List.length_append]
  · rintro _ ho
    simp only [esC]
    simp (disch := omega) only [go_sem, seval, encHs_len]
    refine AWP.keep [] (aCode_ok Ty.mixed _ _ _ _ (by kernel_rfl) ?_)
    simp (disch := omega) only [go_sem, seval]
    have := heirI_skip p s.heirs [] ho
    rw [List.append_nil, heirI, if_pos (by omega)] at this
    rw [this]
theorem rprice_calls (Γ : Nat → Option (List AV)) (n : Int) (h : AH) :
    ACalls Try.prog Γ 54 [.int .i64 n] h fun v h' => h' = h ∧ v = .bool (decide (0 ≤ n) && decide (n ≤ 1048576)) := by
  refine ACalls.drop ?_
  refine acalls_code (rs := [.tmp 2]) Try.func54 rfl rfl rfl rfl Ty.mixed (by kernel_rfl) ?_
  simp (disch := omega) only [go_sem, seval]
  refine aIf.intro (fun h1 => ?_) (fun h1 => ?_) <;> simp (disch := omega) only [go_sem, seval, h1]
theorem pow_le {a b : Nat} (h : a ≤ b) : (2 : Int) ^ a ≤ 2 ^ b := by exact_mod_cast Nat.pow_le_pow_right (by decide) h
theorem pow_pos' (a : Nat) : (0 : Int) < 2 ^ a := by exact_mod_cast Nat.pow_pos (by decide)
set_option maxRecDepth 100000 in
theorem rpower_calls (Γ : Nat → Option (List AV)) (n : Int) (h : AH) (hn : n ≤ 60) :
    ACalls Try.prog Γ 40 [.int .i64 n] h fun v h' => h' = h ∧ v = .int .i64 (2 ^ n.toNat) := by
  refine ACalls.drop ?_
  refine acalls_code (rs := [.tmp 2]) Try.func40 rfl rfl rfl rfl Ty.mixed (by kernel_rfl) ?_
  simp (disch := omega) only [go_sem, seval]
  refine awp_loopS (α := Nat) [0, 3, 4] (fun i => [(0, .int .i64 n), (3, .int .i64 (2 ^ i)), (4, .int .i64 i)]) (fun _ => h) (fun i => i ≤ n.toNat) (fun i => n.toNat - i) 0 ?_ rfl (Nat.zero_le _) Ty.mixed (by kernel_rfl) ?_
  · simp (disch := omega) only [go_sem, seval, Int.pow_zero]
  · intro i hi
    have h60 := pow_le (a := i) (b := 60) (by omega)
    have hp := pow_pos' i
    have e60 : (2 : Int) ^ 60 = 1152921504606846976 := by decide
    have e2 : (2 : Int) * 2 ^ i = 2 ^ (i + 1) := by rw [Int.pow_succ]; omega
    have e3 : IntKind.i64.wrap (2 * 2 ^ i) = 2 ^ (i + 1) := by rw [IntKind.wrap_i64, ← e2]; omega
    simp (disch := omega) only [go_sem, seval]
    refine aIf.intro (fun h1 => ?_) (fun h1 => ?_) <;> simp (disch := omega) only [go_sem, seval, e3]
    · refine roundS_next (i + 1) (by omega) (by omega) ?_ rfl
      simp (disch := omega) only [go_sem, seval]
    · have : i = n.toNat := by omega
      subst this
      refine AWP.keep [3] (aCode_ok Ty.mixed _ _ _ _ (by kernel_rfl) ?_)
      simp (disch := omega) only [go_sem, seval]
/-- Is the heir with this index a member? -/
def memI (m i : Int) : Bool := decide (m / 2 ^ i.toNat % 2 = 1)
theorem rmember_calls (Γ : Nat → Option (List AV)) (m i : Int) (h : AH) (hm : 0 ≤ m) (hm2 : m ≤ 1000000) (hi : i ≤ 60) :
    ACalls Try.prog Γ 52 [.int .i64 m, .int .i64 i] h fun v h' => h' = h ∧ v = .bool (memI m i) := by
  have c1 := fun h => rpower_calls Γ i h hi
  have hp := pow_pos' i.toNat
  refine ACalls.drop ?_
  refine acalls_code (rs := [.tmp 4]) Try.func52 rfl rfl rfl rfl Ty.mixed (by kernel_rfl) ?_
  simp (disch := omega) only [go_sem, seval]
  refine ACalls.det (c1 _) ?_
  simp (disch := omega) only [go_sem, seval]
  have hd : m.tdiv (2 ^ i.toNat) = m / 2 ^ i.toNat := Int.tdiv_eq_ediv_of_nonneg hm
  have h0 : 0 ≤ m / 2 ^ i.toNat := Int.ediv_nonneg hm (Int.le_of_lt hp)
  have h1 : m / 2 ^ i.toNat ≤ m := Int.ediv_le_self _ hm
  have hw : IntKind.i64.wrap (m / 2 ^ i.toNat) = m / 2 ^ i.toNat := by rw [IntKind.wrap_i64]; omega
  refine ⟨by omega, ?_⟩
  rw [hd, hw, Int.tmod_eq_emod_of_nonneg h0]
  rfl
end Go.Proofs.Ytaepdkjfaeepmaa

/- The reference's heirs, among, need, Safe, Living. No conditions. -/
set_option linter.unusedSimpArgs false
set_option linter.unusedVariables false
namespace Go.Proofs.Ytaepdkjfaeepmaa
open Go Go.Proofs Go.Abs

theorem heirI_lt (p : Int) : ∀ l : List Hr, -1 ≤ heirI l p ∧ heirI l p < l.length
  | [] => by simp [heirI]
  | x :: r => by
    have := heirI_lt p r
    rw [heirI]
    simp only [List.length_cons]
    split
    · omega
    · split <;> omega
def ltO : Option Int → Int → Bool
  | none, _ => true
  | some y, x => decide (y < x)
/-- Is a list one of heirs, strictly increasing, from a last one on? -/
def hsF (hs : List Hr) : Option Int → List Int → Bool
  | _, [] => true
  | o, x :: r => decide (0 ≤ heirI hs x) && ltO o x && hsF hs (some x) r
set_option maxRecDepth 100000 in
theorem rheirs_calls (Γ : Nat → Option (List AV)) (s : Es) (l : List Int) (h : AH) (hL : s.heirs.length ≤ 9223372036854775807) (hl : l.length ≤ 9223372036854775807) :
    ACalls Try.prog Γ 53 [encEs s, .sl (encI l) .free] h fun v h' => h' = h ∧ v = .bool (hsF s.heirs none l) := by
  have c1 := fun p h => rheir_calls Γ s p h hL
  refine ACalls.drop ?_
  simp only [encEs, esC] at c1 ⊢
  refine acalls_code (rs := [.tmp 4]) Try.func53 rfl rfl rfl rfl Ty.mixed (by kernel_rfl) ?_
  simp (disch := omega) only [go_sem, seval]
  refine awp_loopL (β := Unit) l [1, 2, 5] (fun don _ => [(1, .sl (encI l) .free), (2, .ptr (some (h.length, 0))), (5, .int .i64 don.length)]) (fun _ => h ++ [.row (esC s) 26]) (fun don r _ => hsF s.heirs none l = hsF s.heirs don.getLast? r) () ?_ rfl rfl Ty.mixed (by kernel_rfl) ?_ ?_
  · simp (disch := omega) only [go_sem, seval]
  · rintro don x r _ hd ho
    have hlen : l.length = don.length + 1 + r.length := by rw [hd]; simp; omega
    have e1 : (encI l)[don.length]? = some (.int .i64 x) := by rw [hd]; exact encI_at don r x
    rw [hsF] at ho
    simp only [esC] at ⊢
    simp (disch := omega) only [go_sem, seval, encI_len]
    refine aIf.pos (by omega) ?_
    simp (disch := omega) only [go_sem, seval, e1]
    refine aCallF.intro (fun _ => c1 x _) ?_
    simp (disch := omega) only [go_sem, seval]
    refine aIf.intro (fun h1 => ?_) (fun h1 => ?_) <;> simp (disch := omega) only [go_sem, seval]
    · rw [ho, decide_eq_false (by omega)]; rfl
    rcases List.eq_nil_or_concat don with rfl | ⟨d, y, rfl⟩
    · simp (disch := omega) only [go_sem, seval, List.length_nil]
      refine roundL_next () ?_ ?_ rfl
      · rw [ho, decide_eq_true (by omega)]; rfl
      · simp (disch := omega) only [go_sem, seval, List.length_append]
    · rw [List.concat_eq_append] at *
      have e3 : (encI l)[d.length]? = some (.int .i64 y) := by rw [hd, List.append_assoc]; exact encI_at d _ y
      have hdl : (d ++ [y]).length = d.length + 1 := by simp
      rw [List.getLast?_concat, ltO] at ho
      rw [hdl] at e1 ⊢
      refine aIf.pos (by omega) ?_
      have e4 : ((d.length : Int) + 1).toNat = d.length + 1 := by omega
      simp (disch := omega) only [go_sem, seval, e1, e3]
      refine ⟨by omega, ?_⟩
      simp (disch := omega) only [go_sem, seval, e4, e1]
      refine aIf.intro (fun h2 => ?_) (fun h2 => ?_) <;> simp (disch := omega) only [go_sem, seval]
      · rw [ho, decide_eq_true (show 0 ≤ heirI s.heirs x by omega), decide_eq_false (show ¬ y < x by omega)]; rfl
      · refine roundL_next () ?_ ?_ rfl
        · rw [ho, List.getLast?_concat, decide_eq_true (show 0 ≤ heirI s.heirs x by omega), decide_eq_true (show y < x by omega)]; rfl
        · simp (disch := omega) only [go_sem, seval, List.length_append, List.length_cons, List.length_nil]
  · rintro _ ho
    simp only [esC]
    simp (disch := omega) only [go_sem, seval, encI_len]
    refine AWP.keep [] (aCode_ok Ty.mixed _ _ _ _ (by kernel_rfl) ?_)
    simp (disch := omega) only [go_sem, seval]
    rw [ho, hsF]
/-- How many of some people are members. -/
def amongF (hs : List Hr) (m : Int) (l : List Int) : Nat := (l.filter fun p => memI m (heirI hs p)).length
set_option maxRecDepth 100000 in
theorem ramong_calls (Γ : Nat → Option (List AV)) (s : Es) (m : Int) (l : List Int) (h : AH) (hL : s.heirs.length ≤ 60) (hl : l.length ≤ 9223372036854775807) (hm : 0 ≤ m) (hm2 : m ≤ 1000000) :
    ACalls Try.prog Γ 58 [encEs s, .int .i64 m, .sl (encI l) .free] h fun v h' => h' = h ∧ v = .int .i64 (amongF s.heirs m l) := by
  have c1 := fun p h => rheir_calls Γ s p h (by omega)
  have c2 := fun p h => rmember_calls Γ m (heirI s.heirs p) h hm hm2 (by have := heirI_lt p s.heirs; omega)
  refine ACalls.drop ?_
  simp only [encEs, esC] at c1 ⊢
  refine acalls_code (rs := [.tmp 6]) Try.func58 rfl rfl rfl rfl Ty.mixed (by kernel_rfl) ?_
  simp (disch := omega) only [go_sem, seval]
  refine awp_loopL (β := Unit) l [1, 2, 3, 7, 8] (fun don _ => [(1, .int .i64 m), (2, .sl (encI l) .free), (3, .ptr (some (h.length, 0))), (7, .int .i64 (amongF s.heirs m don)), (8, .int .i64 don.length)]) (fun _ => h ++ [.row (esC s) 26]) (fun _ _ _ => True) () ?_ rfl trivial Ty.mixed (by kernel_rfl) ?_ ?_
  · simp (disch := omega) only [go_sem, seval, show amongF s.heirs m [] = 0 from rfl]
  · rintro don x r _ hd _
    have hlen : l.length = don.length + 1 + r.length := by rw [hd]; simp; omega
    have e1 : (encI l)[don.length]? = some (.int .i64 x) := by rw [hd]; exact encI_at don r x
    have ha : amongF s.heirs m don ≤ don.length := List.length_filter_le _ _
    have hn : amongF s.heirs m (don ++ [x]) = amongF s.heirs m don + if memI m (heirI s.heirs x) = true then 1 else 0 := by
      simp only [amongF, List.filter_append, List.length_append, List.filter_cons, List.filter_nil]
      split <;> rfl
    simp only [esC]
    simp (disch := omega) only [go_sem, seval, encI_len]
    refine aIf.pos (by omega) ?_
    simp (disch := omega) only [go_sem, seval, e1]
    refine aCallF.intro (fun _ => c1 x _) ?_
    simp (disch := omega) only [go_sem, seval]
    refine aCallF.intro (fun _ => c2 x _) ?_
    simp (disch := omega) only [go_sem, seval]
    cases hx : memI m (heirI s.heirs x) with
    | true =>
      rw [hx, if_pos rfl] at hn
      simp (disch := omega) only [go_sem, seval]
      refine roundL_next () trivial ?_ rfl
      simp (disch := omega) only [go_sem, seval, List.length_append, hn]
    | false =>
      rw [hx, if_neg (by simp), Nat.add_zero] at hn
      simp (disch := omega) only [go_sem, seval]
      refine roundL_next () trivial ?_ rfl
      simp (disch := omega) only [go_sem, seval, List.length_append, hn]
  · rintro _ _
    simp only [esC]
    simp (disch := omega) only [go_sem, seval, encI_len]
    refine AWP.keep [7] (aCode_ok Ty.mixed _ _ _ _ (by kernel_rfl) ?_)
    simp (disch := omega) only [go_sem, seval]
/-- How many of the first heirs are members. -/
def cntM (m : Int) : Nat → Nat
  | 0 => 0
  | k + 1 => cntM m k + if memI m k = true then 1 else 0
theorem cntM_le (m : Int) : ∀ k, cntM m k ≤ k
  | 0 => Nat.le_refl _
  | k + 1 => by have := cntM_le m k; rw [cntM]; split <;> omega
def needF (s : Es) (m : Int) : Int := s.needs.getD (cntM m s.heirs.length) 0
set_option maxRecDepth 100000 in
theorem rneed_calls (Γ : Nat → Option (List AV)) (s : Es) (m : Int) (h : AH) (hL : s.heirs.length ≤ 60) (hn : s.needs.length = s.heirs.length + 1) (hm : 0 ≤ m) (hm2 : m ≤ 1000000) :
    ACalls Try.prog Γ 59 [encEs s, .int .i64 m] h fun v h' => h' = h ∧ v = .int .i64 (needF s m) := by
  refine ACalls.drop ?_
  simp only [encEs, esC]
  refine acalls_code (rs := [.tmp 4]) Try.func59 rfl rfl rfl rfl Ty.mixed (by kernel_rfl) ?_
  simp (disch := omega) only [go_sem, seval]
  refine awp_loopL (β := Unit) s.heirs [1, 2, 5, 6] (fun don _ => [(1, .int .i64 m), (2, .ptr (some (h.length, 0))), (5, .int .i64 (cntM m don.length)), (6, .int .i64 don.length)]) (fun _ => h ++ [.row (esC s) 26]) (fun _ _ _ => True) () ?_ rfl trivial Ty.mixed (by kernel_rfl) ?_ ?_
  · simp (disch := omega) only [go_sem, seval, List.length_nil, cntM]
  · rintro don x r _ hd _
    have hlen : s.heirs.length = don.length + 1 + r.length := by rw [hd]; simp; omega
    have c2 := fun h => rmember_calls Γ m don.length h hm hm2 (by omega)
    have ha := cntM_le m don.length
    have hs : cntM m (don ++ [x]).length = cntM m don.length + if memI m don.length = true then 1 else 0 := by rw [List.length_append]; rfl
    simp only [esC]
    simp (disch := omega) only [go_sem, seval, encHs_len]
    refine aIf.pos (by omega) ?_
    simp (disch := omega) only [go_sem, seval]
    refine ACalls.det (c2 _) ?_
    simp (disch := omega) only [go_sem, seval]
    cases hx : memI m don.length with
    | true =>
      rw [hx, if_pos rfl] at hs
      simp (disch := omega) only [go_sem, seval]
      refine roundL_next () trivial ?_ rfl
      rw [hs]
      simp (disch := omega) only [go_sem, seval, List.length_append]
    | false =>
      rw [hx, if_neg (by simp), Nat.add_zero] at hs
      simp (disch := omega) only [go_sem, seval]
      refine roundL_next () trivial ?_ rfl
      rw [hs]
      simp (disch := omega) only [go_sem, seval, List.length_append]
  · rintro _ _
    simp only [esC]
    have hc := cntM_le m s.heirs.length
    have e1 : (encI s.needs)[cntM m s.heirs.length]? = some (.int .i64 (needF s m)) := by
      rw [encI, List.getElem?_map, List.getElem?_eq_getElem (by omega), needF, List.getD_eq_getElem?_getD, List.getElem?_eq_getElem (by omega)]; rfl
    simp (disch := omega) only [go_sem, seval, encHs_len]
    refine AWP.keep [2, 5] (aCode_ok Ty.mixed _ _ _ _ (by kernel_rfl) ?_)
    simp (disch := omega) only [go_sem, seval, e1]
/-- An estate of the right lengths. -/
structure EsOK (s : Es) : Prop where
  L : s.heirs.length ≤ 60
  n : s.needs.length = s.heirs.length + 1
  a : s.alive.length ≤ 9223372036854775807
  m : s.members.length ≤ 9223372036854775807
  v : s.never.length ≤ 9223372036854775807
  c : ∀ c ∈ s.never, c.length ≤ 9223372036854775807
def safeF (s : Es) (m : Int) : Bool := s.never.all fun c => decide ((amongF s.heirs m c : Int) < needF s m)
def livF (s : Es) (m : Int) : Bool := decide (needF s m ≤ amongF s.heirs m s.alive)
set_option maxRecDepth 100000 in
theorem rsafe_calls (Γ : Nat → Option (List AV)) (s : Es) (m : Int) (h : AH) (hs : EsOK s) (hm : 0 ≤ m) (hm2 : m ≤ 1000000) :
    ACalls Try.prog Γ 42 [encEs s, .int .i64 m] h fun v h' => h' = h ∧ v = .bool (safeF s m) := by
  have c1 := fun c (hc : c ∈ s.never) h => ramong_calls Γ s m c h hs.L (hs.c c hc) hm hm2
  have c2 := fun h => rneed_calls Γ s m h hs.L hs.n hm hm2
  have hv := hs.v
  refine ACalls.drop ?_
  simp only [encEs, esC] at c1 c2 ⊢
  refine acalls_code (rs := [.tmp 4]) Try.func42 rfl rfl rfl rfl Ty.mixed (by kernel_rfl) ?_
  simp (disch := omega) only [go_sem, seval]
  refine awp_loopL (β := Unit) s.never [1, 2, 5] (fun don _ => [(1, .int .i64 m), (2, .ptr (some (h.length, 0))), (5, .int .i64 don.length)]) (fun _ => h ++ [.row (esC s) 26]) (fun don _ _ => ∀ c ∈ don, (amongF s.heirs m c : Int) < needF s m) () ?_ rfl (by simp) Ty.mixed (by kernel_rfl) ?_ ?_
  · simp (disch := omega) only [go_sem, seval]
  · rintro don x r _ hd ho
    have hlen : s.never.length = don.length + 1 + r.length := by rw [hd]; simp; omega
    have e1 : (encNv s.never)[don.length]? = some (.sl (encI x) .free) := by rw [hd]; exact encNv_get don r x
    have c1 := c1 x (by rw [hd]; simp)
    simp only [esC]
    simp (disch := omega) only [go_sem, seval, encNv_len]
    refine aIf.pos (by omega) ?_
    simp (disch := omega) only [go_sem, seval, e1]
    refine aCallF.intro (fun _ => c1 _) ?_
    simp (disch := omega) only [go_sem, seval]
    refine aCallF.intro (fun _ => c2 _) ?_
    simp (disch := omega) only [go_sem, seval]
    refine aIf.intro (fun h1 => ?_) (fun h1 => ?_) <;> simp (disch := omega) only [go_sem, seval]
    · rw [safeF, List.all_eq_false.2 ⟨x, by rw [hd]; simp, by simp; omega⟩]
    · refine roundL_next () ?_ ?_ rfl
      · intro c hc
        rcases List.mem_append.1 hc with hc | hc
        · exact ho c hc
        · rw [List.mem_singleton] at hc; subst hc; omega
      · simp (disch := omega) only [go_sem, seval, List.length_append]
  · rintro _ ho
    simp only [esC]
    simp (disch := omega) only [go_sem, seval, encNv_len]
    refine AWP.keep [] (aCode_ok Ty.mixed _ _ _ _ (by kernel_rfl) ?_)
    simp (disch := omega) only [go_sem, seval]
    rw [safeF, List.all_eq_true.2 fun c hc => decide_eq_true (ho c hc)]
set_option maxRecDepth 100000 in
theorem rliving_calls (Γ : Nat → Option (List AV)) (s : Es) (m : Int) (h : AH) (hs : EsOK s) (hm : 0 ≤ m) (hm2 : m ≤ 1000000) :
    ACalls Try.prog Γ 43 [encEs s, .int .i64 m] h fun v h' => h' = h ∧ v = .bool (livF s m) := by
  have c1 := fun h => ramong_calls Γ s m s.alive h hs.L hs.a hm hm2
  have c2 := fun h => rneed_calls Γ s m h hs.L hs.n hm hm2
  refine ACalls.drop ?_
  simp only [encEs, esC] at c1 c2 ⊢
  refine acalls_code (rs := [.tmp 4]) Try.func43 rfl rfl rfl rfl Ty.mixed (by kernel_rfl) ?_
  simp (disch := omega) only [go_sem, seval]
  refine aCallF.intro (fun _ => c1 _) ?_
  simp (disch := omega) only [go_sem, seval]
  refine aCallF.intro (fun _ => c2 _) ?_
  simp (disch := omega) only [go_sem, seval]
  rfl
end Go.Proofs.Ytaepdkjfaeepmaa

/- The reference's Step, Number, States, less. No conditions. -/
set_option linter.unusedSimpArgs false
set_option linter.unusedVariables false
namespace Go.Proofs.Ytaepdkjfaeepmaa
open Go Go.Proofs Go.Abs

structure Sg where
  kind : Int
  person : Int
  deriving DecidableEq
def encSg (x : Sg) : AV := .agg [.int .i64 x.kind, .int .i64 x.person]
theorem memI_nat (m i : Nat) : memI m i = m.testBit i := by
  rw [memI, Nat.testBit_eq_decide_div_mod_eq, Int.toNat_natCast]
  have e : ((m : Int) / 2 ^ i % 2 = 1) ↔ m / 2 ^ i % 2 = 1 := by
    rw [show ((2 : Int) ^ i) = ((2 ^ i : Nat) : Int) by rw [Int.natCast_pow]; rfl]
    omega
  simp [e]
/-- A state with a further member, a state without one. -/
theorem join_lt {m i n : Nat} (hm : m < 2 ^ n) (hi : i < n) (h : m.testBit i = false) : m + 2 ^ i < 2 ^ n := by
  rw [Nat.testBit_eq_decide_div_mod_eq, decide_eq_false_iff_not] at h
  have hp : 0 < 2 ^ i := Nat.pow_pos (by decide)
  have e1 : 2 ^ n = 2 ^ i * (2 * 2 ^ (n - i - 1)) := by
    rw [← Nat.pow_succ', ← Nat.pow_add]; congr 1; omega
  have hq : m / 2 ^ i < 2 * 2 ^ (n - i - 1) := Nat.div_lt_of_lt_mul (by rw [← e1]; exact hm)
  have hd := Nat.div_add_mod m (2 ^ i)
  have hr := Nat.mod_lt m hp
  have h2 : m / 2 ^ i + 1 + 1 ≤ 2 * 2 ^ (n - i - 1) := by omega
  have h3 := Nat.mul_le_mul_left (2 ^ i) h2
  rw [← e1, Nat.mul_add, Nat.mul_add] at h3
  omega
theorem leave_ge {m i : Nat} (h : m.testBit i = true) : 2 ^ i ≤ m := Nat.ge_two_pow_of_testBit h
def hrAt (s : Es) (i : Nat) : Hr := s.heirs.getD i ⟨0, 0, 0⟩
theorem hrAt_get {s : Es} {i : Nat} (hi : i < s.heirs.length) : (encHs s.heirs)[i]? = some (encH (hrAt s i)) := by
  rw [encHs, List.getElem?_map, List.getElem?_eq_getElem hi, hrAt, List.getD_eq_getElem?_getD, List.getElem?_eq_getElem hi]; rfl
/-- The state behind a stage, and its price. -/
def stepF (s : Es) (m : Nat) (x : Sg) : Int × Int :=
  if heirI s.heirs x.person < 0 then (-1, 0)
  else if x.kind = 1 ∧ m.testBit (heirI s.heirs x.person).toNat = false then ((m : Int) + 2 ^ (heirI s.heirs x.person).toNat, (hrAt s (heirI s.heirs x.person).toNat).join)
  else if x.kind = 2 ∧ m.testBit (heirI s.heirs x.person).toNat = true then ((m : Int) - 2 ^ (heirI s.heirs x.person).toNat, (hrAt s (heirI s.heirs x.person).toNat).leave)
  else (-1, 0)
set_option maxRecDepth 100000 in
theorem rstep_calls (Γ : Nat → Option (List AV)) (s : Es) (m : Nat) (x : Sg) (h : AH) (hL : s.heirs.length ≤ 60) (hm : m ≤ 1000000) :
    ACalls Try.prog Γ 34 [encEs s, .int .i64 m, encSg x] h fun v h' => h' = h ∧ v = .tuple [.int .i64 (stepF s m x).1, .int .i64 (stepF s m x).2] := by
  have c1 := fun h => rheir_calls Γ s x.person h (by omega)
  have hi := heirI_lt x.person s.heirs
  obtain ⟨i, hie⟩ : ∃ i, heirI s.heirs x.person = i := ⟨_, rfl⟩
  have hdef : stepF s m x = if i < 0 then (-1, 0) else if x.kind = 1 ∧ m.testBit i.toNat = false then ((m : Int) + 2 ^ i.toNat, (hrAt s i.toNat).join) else if x.kind = 2 ∧ m.testBit i.toNat = true then ((m : Int) - 2 ^ i.toNat, (hrAt s i.toNat).leave) else (-1, 0) := by
    unfold stepF; rw [hie]
  rw [hie] at hi
  have c2 := fun h => rmember_calls Γ m i h (Int.natCast_nonneg _) (by omega) (by omega)
  have c3 := fun h => rpower_calls Γ i h (by omega)
  rw [hie] at c1
  have hp := pow_pos' i.toNat
  have hp60 := pow_le (a := i.toNat) (b := 60) (by omega)
  have e60 : (2 : Int) ^ 60 = 1152921504606846976 := by decide
  refine ACalls.drop ?_
  simp only [encEs, esC, encSg] at c1 ⊢
  refine acalls_code (rs := [.tmp 6, .tmp 7]) Try.func34 rfl rfl rfl rfl Ty.mixed (by kernel_rfl) ?_
  simp (disch := omega) only [go_sem, seval]
  refine ACalls.det (c1 _) ?_
  simp (disch := omega) only [go_sem, seval]
  refine aIf.intro (fun h1 => ?_) (fun h1 => ?_) <;> simp (disch := omega) only [go_sem, seval]
  · rw [hdef, if_pos h1]
  have em : memI m i = m.testBit i.toNat := by rw [← memI_nat, Int.toNat_of_nonneg (by omega)]
  rw [em] at c2
  have e1 := hrAt_get (s := s) (i := i.toNat) (by omega)
  simp only [encH] at e1
  rw [if_neg h1] at hdef
  rw [hdef]
  refine aIf.intro (fun h2 => ?_) (fun h2 => ?_) <;> simp (disch := omega) only [go_sem, seval]
  · refine ACalls.det (c2 _) ?_
    simp (disch := omega) only [go_sem, seval]
    cases hb : m.testBit i.toNat with
    | false =>
      rw [if_pos ⟨h2, rfl⟩]
      simp (disch := omega) only [go_sem, seval]
      refine aCallF.intro (fun _ => c3 _) ?_
      simp (disch := omega) only [go_sem, seval, e1, encHs_len]
      omega
    | true =>
      rw [if_neg (by simp), if_neg (by omega)]
      simp (disch := omega) only [go_sem, seval]
      refine aIf.neg (by omega) ?_
      simp (disch := omega) only [go_sem, seval]
  · rw [if_neg (fun h => h2 h.1)]
    refine aIf.intro (fun h3 => ?_) (fun h3 => ?_) <;> simp (disch := omega) only [go_sem, seval]
    · refine ACalls.det (c2 _) ?_
      simp (disch := omega) only [go_sem, seval]
      cases hb : m.testBit i.toNat with
      | true =>
        rw [if_pos ⟨h3, rfl⟩]
        simp (disch := omega) only [go_sem, seval]
        refine aCallF.intro (fun _ => c3 _) ?_
        simp (disch := omega) only [go_sem, seval, e1, encHs_len]
        omega
      | false =>
        rw [if_neg (by simp)]
        simp (disch := omega) only [go_sem, seval]
    · rw [if_neg (fun h => h3 h.1)]
end Go.Proofs.Ytaepdkjfaeepmaa

/- The reference's States, less, Walk. No conditions. -/
set_option linter.unusedSimpArgs false
set_option linter.unusedVariables false
namespace Go.Proofs.Ytaepdkjfaeepmaa
open Go Go.Proofs Go.Abs

/-- An estate with right prices, and not too many heirs. -/
structure EsR (s : Es) : Prop extends EsOK s where
  h : s.heirs.length ≤ 19
  p : ∀ x ∈ s.heirs, 0 ≤ x.join ∧ x.join ≤ 1048576 ∧ 0 ≤ x.leave ∧ x.leave ≤ 1048576
theorem two19 : (2 : Nat) ^ 19 = 524288 := by decide
theorem EsR.small {s : Es} (h : EsR s) {m : Nat} (hm : m < 2 ^ s.heirs.length) : m ≤ 1000000 := by
  have := Nat.pow_le_pow_right (n := 2) (by decide) h.h
  rw [two19] at this; omega
theorem step_lt {s : Es} {m : Nat} {x : Sg} (hm : m < 2 ^ s.heirs.length) (h : ¬ (stepF s m x).1 < 0) : (stepF s m x).1.toNat < 2 ^ s.heirs.length := by
  have hi := heirI_lt x.person s.heirs
  revert h
  unfold stepF
  have hc : ∀ i : Nat, (2 : Int) ^ i = ((2 ^ i : Nat) : Int) := fun i => by rw [Int.natCast_pow]; rfl
  split
  · simp
  · split
    · rename_i h1 h2
      intro _
      have := join_lt hm (i := (heirI s.heirs x.person).toNat) (by omega) h2.2
      simp only [hc]; omega
    · split
      · rename_i h1 h2 h3
        intro _
        have h4 := leave_ge h3.2
        have h5 : 0 < 2 ^ (heirI s.heirs x.person).toNat := Nat.pow_pos (by decide)
        simp only [hc]; omega
      · simp
theorem hrAt_price {s : Es} (h : EsR s) (i : Nat) : 0 ≤ (hrAt s i).join ∧ (hrAt s i).join ≤ 1048576 ∧ 0 ≤ (hrAt s i).leave ∧ (hrAt s i).leave ≤ 1048576 := by
  unfold hrAt
  rw [List.getD_eq_getElem?_getD]
  cases e : s.heirs[i]? with
  | none => simp
  | some y => exact h.p y (List.mem_of_getElem? e)
theorem step_cost {s : Es} (h : EsR s) (m : Nat) (x : Sg) : 0 ≤ (stepF s m x).2 ∧ (stepF s m x).2 ≤ 1048576 := by
  have := hrAt_price h (heirI s.heirs x.person).toNat
  unfold stepF
  split
  · simp
  · split
    · exact ⟨this.1, this.2.1⟩
    · split
      · exact ⟨this.2.2.1, this.2.2.2⟩
      · simp
/-- What a list of stages costs. -/
def walkF (s : Es) : Nat → List Sg → Option Int
  | m, [] => if safeF s m && livF s m then some 0 else none
  | m, x :: r => if !safeF s m || decide ((stepF s m x).1 < 0) then none else (walkF s (stepF s m x).1.toNat r).map fun c => (stepF s m x).2 + c
def walkR (s : Es) (m : Nat) (l : List Sg) : Int := (walkF s m l).getD (-1)
theorem rstates_calls (Γ : Nat → Option (List AV)) (s : Es) (h : AH) (hL : s.heirs.length ≤ 60) :
    ACalls Try.prog Γ 24 [encEs s] h fun v h' => h' = h ∧ v = .int .i64 (2 ^ s.heirs.length) := by
  have c1 := fun h => rpower_calls Γ s.heirs.length h (by omega)
  refine ACalls.drop ?_
  simp only [encEs, esC]
  refine acalls_code (rs := [.tmp 2]) Try.func24 rfl rfl rfl rfl Ty.mixed (by kernel_rfl) ?_
  simp (disch := omega) only [go_sem, seval, encHs_len]
  refine ACalls.det (c1 _) ?_
  simp (disch := omega) only [go_sem, seval, Int.toNat_natCast]
structure WkS where
  m : Nat
  c : Int
  a : Int
  b : Int
set_option maxRecDepth 100000 in
theorem rwalk_calls (Γ : Nat → Option (List AV)) (s : Es) (m : Nat) (l : List Sg) (h : AH) (hs : EsR s) (hm : m < 2 ^ s.heirs.length) (hl : l.length ≤ 100000) :
    ACalls Try.prog Γ 23 [encEs s, .int .i64 m, .sl (l.map encSg) .free] h fun v h' => h' = h ∧ v = .int .i64 (walkR s m l) := by
  have c1 := fun (k : Nat) x (hk : k < 2 ^ s.heirs.length) h => rstep_calls Γ s k x h hs.L (hs.small hk)
  have c2 := fun (k : Nat) (hk : k < 2 ^ s.heirs.length) h => rsafe_calls Γ s k h hs.toEsOK (by omega) (by have := hs.small hk; omega)
  have c3 := fun (k : Nat) (hk : k < 2 ^ s.heirs.length) h => rliving_calls Γ s k h hs.toEsOK (by omega) (by have := hs.small hk; omega)
  refine ACalls.drop ?_
  simp only [encEs, esC, encSg] at c1 c2 c3 ⊢
  refine acalls_code (rs := [.tmp 6]) Try.func23 rfl rfl rfl rfl Ty.mixed (by kernel_rfl) ?_
  simp (disch := omega) only [go_sem, seval]
  refine awp_loopL (β := WkS) l [1, 2, 3, 7, 8] (fun don w => [(1, .int .i64 w.m), (2, .sl (l.map encSg) .free), (3, .ptr (some (h.length, 0))), (7, .int .i64 w.c), (8, .int .i64 don.length)]) (fun _ => h ++ [.row (esC s) 26])
    (fun don r w => w.m < 2 ^ s.heirs.length ∧ 0 ≤ w.c ∧ w.c ≤ 1048576 * don.length ∧ walkR s m l = ((walkF s w.m r).map fun c => w.c + c).getD (-1)) ⟨m, 0, 0, 0⟩ ?_ rfl ?_ Ty.mixed (by kernel_rfl) ?_ ?_
  · simp (disch := omega) only [go_sem, seval, encSg]
  · refine ⟨hm, Int.le_refl _, by simp, ?_⟩
    simp only [walkR]
    congr 1
    cases walkF s m l <;> simp
  · rintro don x r ⟨k, c, a, b⟩ hd ⟨hk, hc1, hc2, hw⟩
    simp only at hk hc1 hc2 hw ⊢
    have hlen : l.length = don.length + 1 + r.length := by rw [hd]; simp; omega
    have e1 : (l.map encSg)[don.length]? = some (encSg x) := by rw [hd]; simp
    have c1 := c1 k x hk
    have c2 := c2 k hk
    have hst := step_cost hs k x
    have hlt := step_lt (s := s) (x := x) hk
    rw [walkF] at hw
    simp only [esC, encSg] at e1 ⊢
    generalize stepF s k x = z at *
    obtain ⟨z1, z2⟩ := z
    simp only at c1 hst hlt hw
    simp (disch := omega) only [go_sem, seval, List.length_map]
    refine aIf.pos (by omega) ?_
    simp (disch := omega) only [go_sem, seval, e1]
    refine aCallF.intro (fun _ => c1 _) ?_
    simp (disch := omega) only [go_sem, seval]
    refine ACalls.det (c2 _) ?_
    simp (disch := omega) only [go_sem, seval]
    cases hsf : safeF s k with
    | false =>
      rw [hsf, if_pos (by simp)] at hw
      simp (disch := omega) only [go_sem, seval]
      rw [hw]; rfl
    | true =>
    rw [hsf] at hw
    simp (disch := omega) only [go_sem, seval]
    refine aIf.intro (fun h1 => ?_) (fun h1 => ?_) <;> simp (disch := omega) only [go_sem, seval]
    · rw [if_pos (by simp [h1])] at hw
      rw [hw]; rfl
    rw [if_neg (by simp; omega)] at hw
    have hlt := hlt h1
    have hz : z1 = (z1.toNat : Int) := by omega
    refine roundL_next (⟨z1.toNat, c + z2, 0, 0⟩ : WkS) ⟨hlt, by simp only; omega, by simp only [List.length_append, List.length_cons, List.length_nil]; omega, ?_⟩ ?_ rfl
    · rw [hw]
      cases walkF s z1.toNat r with
      | none => rfl
      | some d => simp only [Option.map_some, Option.getD_some]; omega
    · simp only [← hz]
      simp (disch := omega) only [go_sem, seval, List.length_append]
  · rintro ⟨k, c, a, b⟩ ⟨hk, hc1, hc2, hw⟩
    simp only at hk hc1 hc2 hw
    have c2 := c2 k hk
    have c3 := c3 k hk
    rw [walkF] at hw
    simp only [esC, encSg]
    simp (disch := omega) only [go_sem, seval, List.length_map]
    refine AWP.keep [1, 3, 7] (aCode_ok Ty.mixed _ _ _ _ (by kernel_rfl) ?_)
    simp (disch := omega) only [go_sem, seval]
    refine ACalls.det (c2 _) ?_
    simp (disch := omega) only [go_sem, seval]
    cases hsf : safeF s k with
    | false =>
      rw [hsf] at hw
      simp (disch := omega) only [go_sem, seval]
      rw [hw]; rfl
    | true =>
    rw [hsf] at hw
    simp (disch := omega) only [go_sem, seval]
    refine ACalls.det (c3 _) ?_
    simp (disch := omega) only [go_sem, seval]
    cases hlf : livF s k with
    | false =>
      rw [hlf] at hw
      simp (disch := omega) only [go_sem, seval]
      rw [hw]; rfl
    | true =>
      rw [hlf] at hw
      simp (disch := omega) only [go_sem, seval]
      rw [hw]
      simp
end Go.Proofs.Ytaepdkjfaeepmaa

/- The reference's less, stages. No conditions. -/
set_option linter.unusedSimpArgs false
set_option linter.unusedVariables false
namespace Go.Proofs.Ytaepdkjfaeepmaa
open Go Go.Proofs Go.Abs

def encP2 (x : Int × Nat) : AV := .agg [.int .i64 x.1, .int .i64 x.2]
theorem rless52_calls (Γ : Nat → Option (List AV)) (x y : Int × Nat) (h : AH) :
    ACalls Try.prog Γ 51 [encP2 x, encP2 y] h fun v h' => h' = h ∧ v = .bool (lessP x y) := by
  obtain ⟨a, b⟩ := x
  obtain ⟨c, d⟩ := y
  refine ACalls.drop ?_
  simp only [encP2]
  refine acalls_code (rs := [.tmp 4]) Try.func51 rfl rfl rfl rfl Ty.mixed (by kernel_rfl) ?_
  simp (disch := omega) only [go_sem, seval]
  unfold lessP
  simp only
  refine aIf.intro (fun h1 => ?_) (fun h1 => ?_) <;> simp (disch := omega) only [go_sem, seval]
  · rw [if_pos (.inl h1)]
  refine aIf.intro (fun h2 => ?_) (fun h2 => ?_) <;> simp (disch := omega) only [go_sem, seval]
  · rw [if_pos (.inr h2)]
  rw [if_neg (by omega)]
  refine aIf.intro (fun h3 => ?_) (fun h3 => ?_) <;> simp (disch := omega) only [go_sem, seval]
  · rw [decide_eq_true h3]; rfl
  rw [decide_eq_false h3]
  refine aIf.intro (fun h4 => ?_) (fun h4 => ?_) <;> simp (disch := omega) only [go_sem, seval]
  · rw [decide_eq_true h4]; simp
  · rw [decide_eq_false h4]; rfl
/-- All stages, in order. -/
def stagesL (s : Es) : List Sg := (s.heirs.map fun x => ⟨1, x.person⟩) ++ s.heirs.map fun x => ⟨2, x.person⟩
theorem rowsOK_Sg (l : List Sg) : RowsOK 2 (l.map encSg) := fun r hr => by
  obtain ⟨x, _, rfl⟩ := List.mem_map.1 hr
  refine ⟨rfl, fun c hc => ?_⟩
  simp only [encSg, AV.cells, List.mem_cons, List.not_mem_nil, or_false] at hc
  rcases hc with rfl | rfl <;> rfl
theorem loose_Sg (l : List Sg) : looseL (l.map encSg) = l.map encSg := looseL_maps _ (fun _ => rfl) l
theorem rb_Sg (n : Nat) (l : List Sg) : RB n (.sl (l.map encSg) .free) := .sl' fun r hr => by
  obtain ⟨x, _, rfl⟩ := List.mem_map.1 hr
  exact of_eq_true (by rw [encSg]; simp (disch := omega) only [go_sem, seval])
structure SgS where
  l : List Sg
  own : Abs.Own
  j : AH
set_option maxRecDepth 100000 in
theorem rstages_calls (Γ : Nat → Option (List AV)) (s : Es) (h : AH) (hL : s.heirs.length ≤ 60) :
    ACalls Try.prog Γ 32 [encEs s] h fun v h' => h' = h ∧ v = .sl ((stagesL s).map encSg) .free := by
  refine ACalls.dropL ?_
  simp only [encEs, esC]
  refine acalls_code (rs := [.tmp 2]) Try.func32 rfl rfl rfl rfl Ty.mixed (by kernel_rfl) ?_
  simp (disch := omega) only [go_sem, seval]
  have gr : ∀ (j : AH), j[0]? = some (.row (esC s) 26) → (h ++ j)[h.length]? = some (.row (esC s) 26) := fun j hj => by rw [List.getElem?_append_right (Nat.le_refl _), Nat.sub_self]; exact hj
  simp only [esC] at gr
  refine awp_loopL (β := SgS) ([1, 2] : List Int) [1, 3, 4] (fun don w => [(1, .ptr (some (h.length, 0))), (3, .sl (w.l.map encSg) w.own), (4, .int .i64 (don.length + 1))]) (fun w => h ++ w.j)
    (fun don _ w => w.j[0]? = some (.row (esC s) 26) ∧ OwnAt h w.j w.l.length w.own ∧ w.l = don.flatMap fun k => s.heirs.map fun x => ⟨k, x.person⟩) ⟨[], .full, [.row (esC s) 26]⟩ ?_ rfl ⟨rfl, trivial, rfl⟩ Ty.mixed (by kernel_rfl) ?_ ?_
  · simp (disch := omega) only [go_sem, seval, List.map_nil, List.length_nil]
  · rintro don k r ⟨m, own, j⟩ hd ⟨hj, ho, hm⟩
    simp only at hj ho hm ⊢
    have hk : k = (don.length : Int) + 1 ∧ don.length ≤ 1 := by
      rcases don with _ | ⟨a, _ | ⟨b, don⟩⟩
      · cases hd; exact ⟨by simp, by simp⟩
      · cases hd; exact ⟨by simp, by simp⟩
      · have := congrArg List.length hd
        simp at this
    have hml : m.length = don.length * s.heirs.length := by
      rw [hm]
      simp only [List.length_flatMap, List.length_map, List.map_const', List.sum_replicate_nat]
    have hm60 : m.length ≤ 60 := by
      rw [hml]
      have := Nat.mul_le_mul hk.2 hL
      omega
    simp (disch := omega) only [go_sem, seval]
    refine aIf.pos (by omega) ?_
    simp (disch := omega) only [go_sem, seval]
    refine awp_loopL (β := SgS) s.heirs [1, 3, 4, 5] (fun don2 w => [(1, .ptr (some (h.length, 0))), (3, .sl (w.l.map encSg) w.own), (4, .int .i64 (don.length + 1)), (5, .int .i64 don2.length)]) (fun w => h ++ w.j)
      (fun don2 _ w => w.j[0]? = some (.row (esC s) 26) ∧ OwnAt h w.j w.l.length w.own ∧ w.l = m ++ don2.map fun x => ⟨k, x.person⟩) ⟨m, own, j⟩ ?_ rfl ⟨hj, ho, by simp⟩ Ty.mixed (by kernel_rfl) ?_ ?_
    · simp (disch := omega) only [go_sem, seval, List.length_nil]
    · rintro don2 x r2 ⟨m2, own2, j2⟩ hd2 ⟨hj2, ho2, hm2⟩
      simp only at hj2 ho2 hm2 ⊢
      have g1 := gr j2 hj2
      have hlen : s.heirs.length = don2.length + 1 + r2.length := by rw [hd2]; simp; omega
      have e1 : (encHs s.heirs)[don2.length]? = some (encH x) := by rw [hd2]; exact encHs_get don2 r2 x
      have hml2 : m2.length = m.length + don2.length := by rw [hm2]; simp
      simp only [encH] at e1
      simp (disch := omega) only [go_sem, seval, g1, encHs_len]
      refine aIf.pos (by omega) ?_
      simp (disch := omega) only [go_sem, seval, g1, e1, encHs_len]
      refine aAp_sl (by rw [List.length_map]; exact ho2) (rowsOK_Sg _) (rowsOK_Sg [⟨don.length + 1, x.person⟩]) (by simp; omega) (by simp; omega) fun j' own' ho' hg => ?_
      rw [show m2.map encSg ++ [AV.agg [.int .i64 ((don.length : Int) + 1), .int .i64 x.person]] = (m2 ++ [(⟨(don.length : Int) + 1, x.person⟩ : Sg)]).map encSg from by rw [List.map_append]; rfl]
      simp (disch := omega) only [go_sem, seval]
      refine roundL_next (⟨m2 ++ [⟨k, x.person⟩], own', j'⟩ : SgS) ⟨hg.2 0 _ hj2 (fun n e => by cases e), by simpa using ho', by rw [hm2]; simp⟩ ?_ rfl
      rw [hk.1]
      simp (disch := omega) only [go_sem, seval, List.length_append]
    · rintro ⟨m2, own2, j2⟩ ⟨hj2, ho2, hm2⟩
      simp only at hj2 ho2 hm2
      have g1 := gr j2 hj2
      simp (disch := omega) only [go_sem, seval, g1, encHs_len]
      refine AWP.keep [1, 3, 4] (aCode_ok Ty.mixed _ _ _ _ (by kernel_rfl) ?_)
      simp (disch := omega) only [go_sem, seval]
      refine roundL_next (⟨m2, own2, j2⟩ : SgS) ⟨hj2, ho2, by rw [hm2, hm]; simp⟩ ?_ rfl
      simp (disch := omega) only [go_sem, seval, List.length_append]
  · rintro ⟨m, own, j⟩ ⟨hj, ho, hm⟩
    simp only at hm
    simp (disch := omega) only [go_sem, seval, List.length_cons, List.length_nil]
    refine AWP.keep [3] (aCode_ok Ty.mixed _ _ _ _ (by kernel_rfl) ?_)
    simp (disch := omega) only [go_sem, seval, loose_Sg]
    rw [hm]
    refine ⟨rb_Sg _ _, ?_⟩
    simp [stagesL]
end Go.Proofs.Ytaepdkjfaeepmaa
