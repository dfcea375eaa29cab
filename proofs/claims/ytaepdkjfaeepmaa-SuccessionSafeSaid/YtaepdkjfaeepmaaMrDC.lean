/- Texts joined: SucF, SucG, SucH, SucJ. No conditions. -/
import Derived.Test.YtaepdkjfaeepmaaMrDB
import Derived.Test.YtaepdkjfaeepmaaMrDA
/- An estate's states and stages as ways. No conditions. -/
set_option linter.unusedSimpArgs false
set_option linter.unusedVariables false
namespace Go.Proofs.Ytaepdkjfaeepmaa
open Go Go.Proofs Go.Abs

def grOf (s : Es) : Gr where
  N := 2 ^ s.heirs.length
  safe m := safeF s m
  liv m := livF s m
  ways m := (stagesL s).filterMap fun x => if (stepF s m x).1 < 0 then none else some ((stepF s m x).1.toNat, (stepF s m x).2)
theorem mem_ways {s : Es} {m t : Nat} {p : Int} : (t, p) ∈ (grOf s).ways m ↔ ∃ x ∈ stagesL s, stepF s m x = ((t : Int), p) := by
  show (t, p) ∈ List.filterMap _ _ ↔ _
  rw [List.mem_filterMap]
  refine exists_congr fun x => and_congr_right fun _ => ?_
  split
  · rename_i h
    constructor
    · intro e; cases e
    · intro e; rw [e] at h; simp only at h; omega
  · rename_i h
    constructor
    · intro e
      cases e
      exact Prod.ext (by simp only; omega) rfl
    · intro e
      rw [e]; simp
theorem mem_stagesL {s : Es} {x : Sg} : x ∈ stagesL s ↔ (x.kind = 1 ∨ x.kind = 2) ∧ ∃ y ∈ s.heirs, y.person = x.person := by
  obtain ⟨k, p⟩ := x
  simp only [stagesL, List.mem_append, List.mem_map, Sg.mk.injEq]
  constructor
  · rintro (⟨y, hy, h1, h2⟩ | ⟨y, hy, h1, h2⟩)
    · exact ⟨.inl h1.symm, y, hy, h2⟩
    · exact ⟨.inr h1.symm, y, hy, h2⟩
  · rintro ⟨h1 | h1, y, hy, h2⟩
    · exact .inl ⟨y, hy, h1.symm, h2⟩
    · exact .inr ⟨y, hy, h1.symm, h2⟩
theorem bit_join {m i : Nat} (h : m.testBit i = false) : (m + 2 ^ i).testBit i = true := by
  rw [Nat.testBit_eq_decide_div_mod_eq, decide_eq_false_iff_not] at h
  rw [Nat.testBit_eq_decide_div_mod_eq, Nat.add_div_right _ (Nat.pow_pos (by decide))]
  simp only [decide_eq_true_eq]; omega
theorem bit_leave {m i : Nat} (h : m.testBit i = true) : (m - 2 ^ i).testBit i = false := by
  have hge := leave_ge h
  obtain ⟨k, rfl⟩ : ∃ k, m = k + 2 ^ i := ⟨m - 2 ^ i, by omega⟩
  rw [Nat.add_sub_cancel]
  cases hk : k.testBit i with
  | false => rfl
  | true =>
    rw [Nat.testBit_eq_decide_div_mod_eq, Nat.add_div_right _ (Nat.pow_pos (by decide)), decide_eq_true_eq] at h
    rw [Nat.testBit_eq_decide_div_mod_eq, decide_eq_true_eq] at hk
    omega
theorem grOf_good {s : Es} (h : EsR s) : (grOf s).Good where
  pos m t p hw := by
    obtain ⟨x, _, e⟩ := mem_ways.1 hw
    have := step_cost h m x
    rw [e] at this; exact this.1
  ins m t p hm hw := by
    obtain ⟨x, _, e⟩ := mem_ways.1 hw
    have := step_lt (x := x) hm (by rw [e]; simp only; omega)
    rw [e] at this
    rw [Int.toNat_natCast] at this
    exact this
  sym m t p hm hw := by
    obtain ⟨x, hx, e⟩ := mem_ways.1 hw
    have hc : ∀ i : Nat, (2 : Int) ^ i = ((2 ^ i : Nat) : Int) := fun i => by rw [Int.natCast_pow]; rfl
    obtain ⟨k, pr⟩ := x
    have hpr := (mem_stagesL.1 hx).2
    revert e
    unfold stepF
    simp only
    split
    · intro e
      have := congrArg Prod.fst e
      simp only at this; omega
    · rename_i h0
      split
      · rename_i h1
        intro e
        have e1 := congrArg Prod.fst e
        simp only [hc] at e1
        have et : t = m + 2 ^ (heirI s.heirs pr).toNat := by omega
        subst et
        refine ⟨(hrAt s (heirI s.heirs pr).toNat).leave, mem_ways.2 ⟨⟨2, pr⟩, mem_stagesL.2 ⟨.inr rfl, hpr⟩, ?_⟩⟩
        unfold stepF
        simp only
        rw [if_neg h0, if_neg (by simp), if_pos ⟨trivial, bit_join h1.2⟩]
        exact Prod.ext (by simp only [hc]; omega) rfl
      · split
        · rename_i h1 h2
          intro e
          have e1 := congrArg Prod.fst e
          have hge := leave_ge h2.2
          simp only [hc] at e1
          have et : t = m - 2 ^ (heirI s.heirs pr).toNat := by omega
          subst et
          refine ⟨(hrAt s (heirI s.heirs pr).toNat).join, mem_ways.2 ⟨⟨1, pr⟩, mem_stagesL.2 ⟨.inl rfl, hpr⟩, ?_⟩⟩
          unfold stepF
          simp only
          rw [if_neg h0, if_pos ⟨trivial, bit_leave h2.2⟩]
          exact Prod.ext (by simp only [hc]; omega) rfl
        · intro e
          have := congrArg Prod.fst e
          simp only at this; omega
/-- A succession of stages is a way, and no way is another. -/
theorem walk_way {s : Es} (h : EsR s) : ∀ (l : List Sg) (m : Nat) (c : Int), walkF s m l = some c → (∀ x ∈ l, x ∈ stagesL s ∨ True) → Wk (grOf s) m c l.length
  | [], m, c, hw, _ => by
    rw [walkF] at hw
    split at hw
    · rename_i hs
      cases hw
      simp only [Bool.and_eq_true] at hs
      exact .fin hs.1 hs.2
    · cases hw
  | x :: r, m, c, hw, _ => by
    rw [walkF] at hw
    split at hw
    · cases hw
    · rename_i hs
      simp only [Bool.or_eq_true, Bool.not_eq_true', decide_eq_true_eq, not_or] at hs
      obtain ⟨d, hd, rfl⟩ := Option.map_eq_some_iff.1 hw
      have ih := walk_way h r _ d hd fun _ _ => .inr trivial
      have hst : stepF s m x = (((stepF s m x).1.toNat : Int), (stepF s m x).2) := Prod.ext (by simp only; omega) rfl
      have hx : x ∈ stagesL s := by
        have hn := hs.2
        revert hn
        unfold stepF
        split
        · simp
        · rename_i h0
          have hm : ∃ y ∈ s.heirs, y.person = x.person := by
            refine Classical.byContradiction fun hno => h0 ?_
            have := heirI_skip x.person s.heirs [] fun y hy e => hno ⟨y, hy, e⟩
            rw [List.append_nil, heirI, if_pos (by omega)] at this
            rw [this]; omega
          split
          · rename_i h1; intro _; exact mem_stagesL.2 ⟨.inl h1.1, hm⟩
          · split
            · rename_i h2; intro _; exact mem_stagesL.2 ⟨.inr h2.1, hm⟩
            · simp
      have := Wk.step (g := grOf s) (show safeF s m = true by
        cases hq : safeF s m with
        | true => rfl
        | false => exact absurd hq hs.1) (mem_ways.2 ⟨x, hx, hst⟩) ih
      rw [Int.add_comm]
      exact this
end Go.Proofs.Ytaepdkjfaeepmaa

/- The reference's Number, Same, SameInts. No conditions. -/
set_option linter.unusedSimpArgs false
set_option linter.unusedVariables false
namespace Go.Proofs.Ytaepdkjfaeepmaa
open Go Go.Proofs Go.Abs

/-- The number of the state in which some heirs are members. -/
def numF (s : Es) (l : List Int) : Int := (l.map fun p => (2 : Int) ^ (heirI s.heirs p).toNat).sum
theorem numF_snoc (s : Es) (l : List Int) (x : Int) : numF s (l ++ [x]) = numF s l + 2 ^ (heirI s.heirs x).toNat := by simp [numF]
theorem numF_bound {s : Es} (h : s.heirs.length ≤ 19) (l : List Int) : 0 ≤ numF s l ∧ numF s l ≤ 524288 * l.length := by
  induction l with
  | nil => simp [numF]
  | cons x r ih =>
    have hi := heirI_lt x s.heirs
    have h1 := pow_le (a := (heirI s.heirs x).toNat) (b := 19) (by omega)
    have h2 := pow_pos' (heirI s.heirs x).toNat
    have e : (2 : Int) ^ 19 = 524288 := by decide
    rw [e] at h1
    have : numF s (x :: r) = 2 ^ (heirI s.heirs x).toNat + numF s r := by simp [numF]
    rw [this, List.length_cons]
    omega
set_option maxRecDepth 100000 in
theorem rnumber_calls (Γ : Nat → Option (List AV)) (s : Es) (l : List Int) (h : AH) (hL : s.heirs.length ≤ 19) (hl : l.length ≤ 100000) :
    ACalls Try.prog Γ 22 [encEs s, .sl (encI l) .free] h fun v h' => h' = h ∧ v = .int .i64 (numF s l) := by
  have c1 := fun p h => rheir_calls Γ s p h (by omega)
  have c2 := fun p h => rpower_calls Γ (heirI s.heirs p) h (by have := heirI_lt p s.heirs; omega)
  refine ACalls.drop ?_
  simp only [encEs, esC] at c1 ⊢
  refine acalls_code (rs := [.tmp 4]) Try.func22 rfl rfl rfl rfl Ty.mixed (by kernel_rfl) ?_
  simp (disch := omega) only [go_sem, seval]
  refine awp_loopL (β := Unit) l [1, 2, 5, 6] (fun don _ => [(1, .sl (encI l) .free), (2, .ptr (some (h.length, 0))), (5, .int .i64 (numF s don)), (6, .int .i64 don.length)]) (fun _ => h ++ [.row (esC s) 26]) (fun _ _ _ => True) () ?_ rfl trivial Ty.mixed (by kernel_rfl) ?_ ?_
  · simp (disch := omega) only [go_sem, seval, show numF s [] = 0 from rfl]
  · rintro don x r _ hd _
    have hlen : l.length = don.length + 1 + r.length := by rw [hd]; simp; omega
    have e1 : (encI l)[don.length]? = some (.int .i64 x) := by rw [hd]; exact encI_at don r x
    have hb := numF_bound hL don
    have hb2 := numF_bound hL (don ++ [x])
    have hn := numF_snoc s don x
    rw [List.length_append, List.length_singleton] at hb2
    have hw : IntKind.i64.wrap (numF s don + 2 ^ (heirI s.heirs x).toNat) = numF s (don ++ [x]) := by rw [← hn, IntKind.wrap_i64]; omega
    simp only [esC]
    simp (disch := omega) only [go_sem, seval, encI_len]
    refine aIf.pos (by omega) ?_
    simp (disch := omega) only [go_sem, seval, e1]
    refine aCallF.intro (fun _ => c1 x _) ?_
    simp (disch := omega) only [go_sem, seval]
    refine aCallF.intro (fun _ => c2 x _) ?_
    simp (disch := omega) only [go_sem, seval, hw]
    refine roundL_next () trivial ?_ rfl
    simp (disch := omega) only [go_sem, seval, List.length_append]
  · rintro _ _
    simp only [esC]
    simp (disch := omega) only [go_sem, seval, encI_len]
    refine AWP.keep [5] (aCode_ok Ty.mixed _ _ _ _ (by kernel_rfl) ?_)
    simp (disch := omega) only [go_sem, seval]
set_option maxRecDepth 100000 in
theorem rsameInts_calls (Γ : Nat → Option (List AV)) (l : List Int) (h : AH) (hl : l.length ≤ 1000000) :
    ACalls Try.prog Γ 20 [.sl (encI l) .free, .sl (encI l) .free] h fun v h' => h' = h ∧ v = .bool true := by
  refine ACalls.drop ?_
  refine acalls_code (rs := [.tmp 4]) Try.func20 rfl rfl rfl rfl Ty.mixed (by kernel_rfl) ?_
  simp (disch := omega) only [go_sem, seval, encI_len]
  refine awp_loopL (β := Unit) l [0, 1, 5] (fun don _ => [(0, .sl (encI l) .free), (1, .sl (encI l) .free), (5, .int .i64 don.length)]) (fun _ => h) (fun _ _ _ => True) () ?_ rfl trivial Ty.mixed (by kernel_rfl) ?_ ?_
  · simp (disch := omega) only [go_sem, seval]
  · rintro don x r _ hd _
    have hlen : l.length = don.length + 1 + r.length := by rw [hd]; simp; omega
    have e1 : (encI l)[don.length]? = some (.int .i64 x) := by rw [hd]; exact encI_at don r x
    simp (disch := omega) only [go_sem, seval, encI_len]
    refine aIf.pos (by omega) ?_
    simp (disch := omega) only [go_sem, seval, e1]
    refine roundL_next () trivial ?_ rfl
    simp (disch := omega) only [go_sem, seval, List.length_append]
  · intro _ _
    simp (disch := omega) only [go_sem, seval, encI_len]
    refine AWP.keep [] (aCode_ok Ty.mixed _ _ _ _ (by kernel_rfl) ?_)
    simp (disch := omega) only [go_sem, seval]
set_option maxRecDepth 100000 in
theorem rsame_calls (Γ : Nat → Option (List AV)) (l : List Sg) (h : AH) (hl : l.length ≤ 1000000) :
    ACalls Try.prog Γ 15 [.sl (l.map encSg) .free, .sl (l.map encSg) .free] h fun v h' => h' = h ∧ v = .bool true := by
  refine ACalls.drop ?_
  refine acalls_code (rs := [.tmp 4]) Try.func15 rfl rfl rfl rfl Ty.mixed (by kernel_rfl) ?_
  simp (disch := omega) only [go_sem, seval, List.length_map]
  refine awp_loopL (β := Unit) l [0, 1, 5] (fun don _ => [(0, .sl (l.map encSg) .free), (1, .sl (l.map encSg) .free), (5, .int .i64 don.length)]) (fun _ => h) (fun _ _ _ => True) () ?_ rfl trivial Ty.mixed (by kernel_rfl) ?_ ?_
  · simp (disch := omega) only [go_sem, seval]
  · rintro don x r _ hd _
    have hlen : l.length = don.length + 1 + r.length := by rw [hd]; simp; omega
    have e1 : (l.map encSg)[don.length]? = some (encSg x) := by rw [hd]; simp
    simp only [encSg] at e1
    simp (disch := omega) only [go_sem, seval, List.length_map]
    refine aIf.pos (by omega) ?_
    simp (disch := omega) only [go_sem, seval, e1]
    refine roundL_next () trivial ?_ rfl
    simp (disch := omega) only [go_sem, seval, List.length_append]
  · intro _ _
    simp (disch := omega) only [go_sem, seval, List.length_map]
    refine AWP.keep [] (aCode_ok Ty.mixed _ _ _ _ (by kernel_rfl) ?_)
    simp (disch := omega) only [go_sem, seval]
end Go.Proofs.Ytaepdkjfaeepmaa

/- The reference's right, Check. No conditions. -/
set_option linter.unusedSimpArgs false
set_option linter.unusedVariables false
namespace Go.Proofs.Ytaepdkjfaeepmaa
open Go Go.Proofs Go.Abs

def nd (s : Es) (i : Nat) : Int := s.needs.getD i 0
def prB (n : Int) : Bool := decide (0 ≤ n) && decide (n ≤ 1048576)
def okX (s : Es) (o : Option Int) (i : Nat) (x : Hr) : Bool :=
  decide (0 ≤ x.person) && decide (x.person < 64) && ltO o x.person && prB x.join && prB x.leave && decide (1 ≤ nd s (i + 1)) && decide (nd s (i + 1) ≤ i + 1)
def okH (s : Es) : Option Int → Nat → List Hr → Bool
  | _, _, [] => true
  | o, i, x :: r => okX s o i x && okH s (some x.person) (i + 1) r
def rightE (s : Es) : Bool := decide (s.heirs.length ≠ 0) && decide (s.needs.length = s.heirs.length + 1) && decide (nd s 0 = 1) && hsF s.heirs none s.members && hsF s.heirs none s.alive && okH s none 0 s.heirs && s.never.all (hsF s.heirs none)
theorem nd_get {s : Es} {i : Nat} (hi : i < s.needs.length) : (encI s.needs)[i]? = some (.int .i64 (nd s i)) := by
  rw [encI, List.getElem?_map, List.getElem?_eq_getElem hi, nd, List.getD_eq_getElem?_getD, List.getElem?_eq_getElem hi]; rfl
/-- An estate whose lists fit into the memory. -/
structure EsL (s : Es) : Prop where
  h : s.heirs.length ≤ 9223372036854775807
  m : s.members.length ≤ 9223372036854775807
  n : s.needs.length ≤ 9223372036854775807
  a : s.alive.length ≤ 9223372036854775807
  v : s.never.length ≤ 9223372036854775807
  c : ∀ c ∈ s.never, c.length ≤ 9223372036854775807
set_option maxRecDepth 100000 in
theorem rright_calls (Γ : Nat → Option (List AV)) (s : Es) (h : AH) (hs : EsL s) (h60 : s.heirs.length ≤ 60) :
    ACalls Try.prog Γ 35 [encEs s] h fun v h' => h' = h ∧ v = .bool (rightE s) := by
  have c1 := fun l (hl : l.length ≤ 9223372036854775807) h => rheirs_calls Γ s l h (by have := h60; omega) hl
  have c2 := fun n h => rprice_calls Γ n h
  have sh := h60
  refine ACalls.drop ?_
  simp only [encEs, esC] at c1 ⊢
  refine acalls_code (rs := [.tmp 2]) Try.func35 rfl rfl rfl rfl Ty.mixed (by kernel_rfl) ?_
  simp (disch := omega) only [go_sem, seval, encHs_len]
  refine aIf.intro (fun h1 => ?_) (fun h1 => ?_) <;> simp (disch := omega) only [go_sem, seval, encHs_len, encI_len]
  · have : s.heirs.length = 0 := by omega
    simp [rightE, this]
  refine aIf.intro (fun h2 => ?_) (fun h2 => ?_) <;> simp (disch := omega) only [go_sem, seval, encHs_len, encI_len]
  rotate_left
  · have : ¬ s.needs.length = s.heirs.length + 1 := by omega
    simp [rightE, this]
  have hn : s.needs.length = s.heirs.length + 1 := by omega
  have e0 := nd_get (s := s) (i := 0) (by omega)
  simp (disch := omega) only [go_sem, seval, e0]
  refine aIf.intro (fun h3 => ?_) (fun h3 => ?_) <;> simp (disch := omega) only [go_sem, seval, encHs_len, encI_len]
  rotate_left
  · simp [rightE, h3]
  refine ACalls.det (c1 _ hs.m _) ?_
  simp (disch := omega) only [go_sem, seval]
  cases hm : hsF s.heirs none s.members with
  | false =>
    simp (disch := omega) only [go_sem, seval]
    simp [rightE, hm]
  | true =>
  simp (disch := omega) only [go_sem, seval]
  refine ACalls.det (c1 _ hs.a _) ?_
  simp (disch := omega) only [go_sem, seval]
  cases ha : hsF s.heirs none s.alive with
  | false =>
    simp (disch := omega) only [go_sem, seval]
    simp [rightE, ha]
  | true =>
  simp (disch := omega) only [go_sem, seval]
  have hre : rightE s = (okH s none 0 s.heirs && s.never.all (hsF s.heirs none)) := by
    rw [rightE, hm, ha, decide_eq_true h3, decide_eq_true hn, decide_eq_true (show s.heirs.length ≠ 0 by omega)]; rfl
  rw [hre]
  refine awp_loopL (β := AH) s.heirs [1, 3] (fun don _ => [(1, .ptr (some (h.length, 0))), (3, .int .i64 don.length)]) (fun j => h ++ (.row (esC s) 26 :: j)) (fun don r _ => okH s none 0 s.heirs = okH s (don.getLast?.map fun x => x.person) don.length r) [] ?_ rfl rfl Ty.mixed (by kernel_rfl) ?_ ?_
  · simp (disch := omega) only [go_sem, seval]
  · rintro don x r j hd ho
    have hlen : s.heirs.length = don.length + 1 + r.length := by rw [hd]; simp; omega
    have e1 : (encHs s.heirs)[don.length]? = some (encH x) := by rw [hd]; exact encHs_get don r x
    have e2 := nd_get (s := s) (i := don.length + 1) (by omega)
    rw [okH] at ho
    simp only [encH] at e1
    simp only [esC]
    simp (disch := omega) only [go_sem, seval, encHs_len]
    refine aIf.pos (by omega) ?_
    simp (disch := omega) only [go_sem, seval, e1, encHs_len]
    have g1 : ∀ (j R : AH), (h ++ (.row (esC s) 26 :: (j ++ R)))[h.length + (j.length + 1)]? = R[0]? := fun j R => by rw [hget_add, List.getElem?_cons_succ, List.getElem?_append_right (Nat.le_refl _), Nat.sub_self]
    have no : okX s (don.getLast?.map fun x => x.person) don.length x = false → AV.bool false = AV.bool (okH s none 0 s.heirs && s.never.all (hsF s.heirs none)) := fun e => by rw [ho, e]; rfl
    refine aIf.intro (fun h4 => ?_) (fun h4 => ?_) <;> simp (disch := omega) only [go_sem, seval]
    · exact no (by simp [okX]; omega)
    refine aIf.intro (fun h5 => ?_) (fun h5 => ?_) <;> simp (disch := omega) only [go_sem, seval]
    · exact no (by simp [okX]; omega)
    have fin : ltO (don.getLast?.map fun x => x.person) x.person = true → okX s (don.getLast?.map fun x => x.person) don.length x = (prB x.join && prB x.leave && decide (1 ≤ nd s (don.length + 1)) && decide (nd s (don.length + 1) ≤ don.length + 1)) := fun e => by
      rw [okX, e, decide_eq_true (show 0 ≤ x.person by omega), decide_eq_true (show x.person < 64 by omega)]; simp
    have nol : ltO (don.getLast?.map fun x => x.person) x.person = false → okX s (don.getLast?.map fun x => x.person) don.length x = false := fun e => by rw [okX, e]; simp
    have e4 : ((don.length : Int) + 1).toNat = don.length + 1 := by omega
    rcases List.eq_nil_or_concat don with hdn | ⟨d, y, hdn⟩
    · have fin := fin (by rw [hdn]; rfl)
      have hd0 : don.length = 0 := by rw [hdn]; rfl
      refine aIf.neg (by omega) ?_
      simp (disch := omega) only [go_sem, seval, g1]
      refine aCallF.intro (fun _ => c2 _ _) ?_
      simp (disch := omega) only [go_sem, seval, g1]
      cases hj : decide (0 ≤ x.join) && decide (x.join ≤ 1048576) with
      | false =>
        simp (disch := omega) only [go_sem, seval]
        exact no (by rw [fin, prB, hj]; rfl)
      | true =>
      simp (disch := omega) only [go_sem, seval, g1]
      refine aCallF.intro (fun _ => c2 _ _) ?_
      simp (disch := omega) only [go_sem, seval, g1]
      cases hl : decide (0 ≤ x.leave) && decide (x.leave ≤ 1048576) with
      | false =>
        simp (disch := omega) only [go_sem, seval]
        exact no (by rw [fin, prB, hj, prB, hl]; rfl)
      | true =>
      have fin : okX s (don.getLast?.map fun x => x.person) don.length x = (decide (1 ≤ nd s (don.length + 1)) && decide (nd s (don.length + 1) ≤ don.length + 1)) := by rw [fin, prB, hj, prB, hl]; rfl
      simp (disch := omega) only [go_sem, seval, e2, e4, g1, encI_len]
      refine ⟨by omega, ?_⟩
      refine aIf.intro (fun h7 => ?_) (fun h7 => ?_) <;> simp (disch := omega) only [go_sem, seval, e2, e4, g1, encI_len]
      · exact no (by rw [fin, decide_eq_false (by omega)]; rfl)
      refine ⟨by omega, ?_⟩
      refine aIf.intro (fun h8 => ?_) (fun h8 => ?_) <;> simp (disch := omega) only [go_sem, seval]
      · exact no (by rw [fin, decide_eq_false (show ¬ nd s (don.length + 1) ≤ don.length + 1 by omega)]; simp)
      refine roundL_next (_ : AH) ?_ ?_ rfl
      · rw [ho, fin, decide_eq_true (show 1 ≤ nd s (don.length + 1) by omega), decide_eq_true (show nd s (don.length + 1) ≤ don.length + 1 by omega), List.getLast?_concat, List.length_append]; rfl
      · simp (disch := omega) only [go_sem, seval, List.length_append]
    · rw [List.concat_eq_append] at hdn
      have hdl : don.length = d.length + 1 := by rw [hdn]; simp
      have e3 : (encHs s.heirs)[d.length]? = some (encH y) := by rw [hd, hdn, List.append_assoc]; exact encHs_get d _ y
      simp only [encH] at e3
      have e5 : ((don.length : Int) - 1).toNat = d.length := by omega
      refine aIf.pos (by omega) ?_
      simp (disch := omega) only [go_sem, seval, e3, e5, g1, encHs_len]
      refine ⟨by omega, ?_⟩
      refine aIf.intro (fun h6 => ?_) (fun h6 => ?_) <;> simp (disch := omega) only [go_sem, seval, g1]
      · exact no (nol (by rw [hdn, List.getLast?_concat]; simp [ltO]; omega))
      have fin := fin (by rw [hdn, List.getLast?_concat]; simp [ltO]; omega)
      refine aCallF.intro (fun _ => c2 _ _) ?_
      simp (disch := omega) only [go_sem, seval, g1]
      cases hj : decide (0 ≤ x.join) && decide (x.join ≤ 1048576) with
      | false =>
        simp (disch := omega) only [go_sem, seval]
        exact no (by rw [fin, prB, hj]; rfl)
      | true =>
      simp (disch := omega) only [go_sem, seval, g1]
      refine aCallF.intro (fun _ => c2 _ _) ?_
      simp (disch := omega) only [go_sem, seval, g1]
      cases hl : decide (0 ≤ x.leave) && decide (x.leave ≤ 1048576) with
      | false =>
        simp (disch := omega) only [go_sem, seval]
        exact no (by rw [fin, prB, hj, prB, hl]; rfl)
      | true =>
      have fin : okX s (don.getLast?.map fun x => x.person) don.length x = (decide (1 ≤ nd s (don.length + 1)) && decide (nd s (don.length + 1) ≤ don.length + 1)) := by rw [fin, prB, hj, prB, hl]; rfl
      simp (disch := omega) only [go_sem, seval, e2, e4, g1, encI_len]
      refine ⟨by omega, ?_⟩
      refine aIf.intro (fun h7 => ?_) (fun h7 => ?_) <;> simp (disch := omega) only [go_sem, seval, e2, e4, g1, encI_len]
      · exact no (by rw [fin, decide_eq_false (by omega)]; rfl)
      refine ⟨by omega, ?_⟩
      refine aIf.intro (fun h8 => ?_) (fun h8 => ?_) <;> simp (disch := omega) only [go_sem, seval]
      · exact no (by rw [fin, decide_eq_false (show ¬ nd s (don.length + 1) ≤ don.length + 1 by omega)]; simp)
      refine roundL_next (_ : AH) ?_ ?_ rfl
      · rw [ho, fin, decide_eq_true (show 1 ≤ nd s (don.length + 1) by omega), decide_eq_true (show nd s (don.length + 1) ≤ don.length + 1 by omega), List.getLast?_concat, List.length_append]; rfl
      · simp (disch := omega) only [go_sem, seval, List.length_append]
  · rintro j ho
    rw [okH] at ho
    rw [ho, Bool.true_and]
    simp only [esC]
    simp (disch := omega) only [go_sem, seval, encHs_len]
    refine AWP.keep [1] (aCode_ok Ty.mixed _ _ _ _ (by kernel_rfl) ?_)
    simp (disch := omega) only [go_sem, seval]
    refine awp_loopL (β := Unit) s.never [1, 5] (fun don _ => [(1, .ptr (some (h.length, 0))), (5, .int .i64 don.length)]) (fun _ => h ++ (.row (esC s) 26 :: j)) (fun don _ _ => ∀ c ∈ don, hsF s.heirs none c = true) () ?_ rfl (by simp) Ty.mixed (by kernel_rfl) ?_ ?_
    · simp (disch := omega) only [go_sem, seval]
    · rintro don x r _ hd hall
      have hlen : s.never.length = don.length + 1 + r.length := by rw [hd]; simp; omega
      have e1 : (encNv s.never)[don.length]? = some (.sl (encI x) .free) := by rw [hd]; exact encNv_get don r x
      have c1 := c1 x (hs.c x (by rw [hd]; simp))
      have hv := hs.v
      simp only [esC]
      simp (disch := omega) only [go_sem, seval, encNv_len]
      refine aIf.pos (by omega) ?_
      simp (disch := omega) only [go_sem, seval, e1]
      refine aCallF.intro (fun _ => c1 _) ?_
      simp (disch := omega) only [go_sem, seval]
      cases hx : hsF s.heirs none x with
      | false =>
        simp (disch := omega) only [go_sem, seval]
        rw [List.all_eq_false.2 ⟨x, by rw [hd]; simp, by simp [hx]⟩]
      | true =>
        simp (disch := omega) only [go_sem, seval]
        refine roundL_next () ?_ ?_ rfl
        · intro c hc
          rcases List.mem_append.1 hc with hc | hc
          · exact hall c hc
          · rw [List.mem_singleton] at hc; subst hc; exact hx
        · simp (disch := omega) only [go_sem, seval, List.length_append]
    · rintro _ hall
      simp only [esC]
      simp (disch := omega) only [go_sem, seval, encNv_len]
      refine AWP.keep [] (aCode_ok Ty.mixed _ _ _ _ (by kernel_rfl) ?_)
      simp (disch := omega) only [go_sem, seval]
      rw [List.all_eq_true.2 hall]
def checkE (s : Es) : Int := if 10 < s.heirs.length ∨ 16 < s.never.length then 2 else if rightE s = true then 0 else 520
theorem rcheck52_calls (Γ : Nat → Option (List AV)) (s : Es) (h : AH) (hs : EsL s) :
    ACalls Try.prog Γ 14 [encEs s] h fun v h' => h' = h ∧ v = .int .i64 (checkE s) := by
  have c1 := fun h60 h => rright_calls Γ s h hs h60
  refine ACalls.drop ?_
  simp only [encEs, esC] at c1 ⊢
  refine acalls_code (rs := [.tmp 2]) Try.func14 rfl rfl rfl rfl Ty.mixed (by kernel_rfl) ?_
  simp (disch := omega) only [go_sem, seval, encHs_len, encNv_len]
  refine aIf.intro (fun h1 => ?_) (fun h1 => ?_) <;> simp (disch := omega) only [go_sem, seval, encHs_len, encNv_len]
  · rw [checkE, if_pos (by omega)]
  refine aIf.intro (fun h2 => ?_) (fun h2 => ?_) <;> simp (disch := omega) only [go_sem, seval]
  · rw [checkE, if_pos (by omega)]
  rw [checkE, if_neg (by omega)]
  refine ACalls.det (c1 (by omega) _) ?_
  simp (disch := omega) only [go_sem, seval]
  cases hr : rightE s <;> simp (disch := omega) only [go_sem, seval]
/-- What is known of an estate that is right. -/
theorem check0 {s : Es} (h : checkE s = 0) : s.heirs.length ≤ 10 ∧ s.never.length ≤ 16 ∧ rightE s = true := by
  rw [checkE] at h
  split at h
  · cases h
  · split at h
    · rename_i h1 h2
      exact ⟨by omega, by omega, h2⟩
    · cases h
theorem okH_mem {s : Es} : ∀ (l : List Hr) (o : Option Int) (i : Nat), okH s o i l = true → ∀ x ∈ l, prB x.join = true ∧ prB x.leave = true ∧ 0 ≤ x.person ∧ x.person < 64
  | [], _, _, _, x, hx => by cases hx
  | y :: r, o, i, h, x, hx => by
    rw [okH, Bool.and_eq_true] at h
    rcases List.mem_cons.1 hx with rfl | hx
    · have := h.1
      simp only [okX, Bool.and_eq_true, decide_eq_true_eq] at this
      exact ⟨this.1.1.1.2, this.1.1.2, this.1.1.1.1.1.1, this.1.1.1.1.1.2⟩
    · exact okH_mem r _ _ h.2 x hx
theorem right_esR {s : Es} (hs : EsL s) (h : rightE s = true) (hl : s.heirs.length ≤ 19) : EsR s := by
  simp only [rightE, Bool.and_eq_true, decide_eq_true_eq] at h
  obtain ⟨⟨⟨⟨⟨⟨h1, h2⟩, h3⟩, h4⟩, h5⟩, h6⟩, h7⟩ := h
  have hp : ∀ x ∈ s.heirs, 0 ≤ x.join ∧ x.join ≤ 1048576 ∧ 0 ≤ x.leave ∧ x.leave ≤ 1048576 := fun x hx => by
    have := okH_mem _ _ _ h6 x hx
    simp only [prB, Bool.and_eq_true, decide_eq_true_eq] at this
    exact ⟨this.1.1, this.1.2, this.2.1.1, this.2.1.2⟩
  exact { L := by omega, n := h2, a := hs.a, m := hs.m, v := hs.v, c := hs.c, h := hl, p := hp }
end Go.Proofs.Ytaepdkjfaeepmaa

/- The reference's holds. No conditions. -/
set_option linter.unusedSimpArgs false
set_option linter.unusedVariables false
namespace Go.Proofs.Ytaepdkjfaeepmaa
open Go Go.Proofs Go.Abs

def hv (H : List Int) (m : Nat) : Int := H.getD m 0
theorem hv_get {H : List Int} {i : Nat} (hi : i < H.length) : (encI H)[i]? = some (.int .i64 (hv H i)) := by
  rw [encI, List.getElem?_map, List.getElem?_eq_getElem hi, hv, List.getD_eq_getElem?_getD, List.getElem?_eq_getElem hi]; rfl
def stOK (s : Es) (H : List Int) (m : Nat) (x : Sg) : Bool :=
  !(decide (0 ≤ (stepF s m x).1) && safeF s (stepF s m x).1 && decide (0 ≤ hv H (stepF s m x).1.toNat) && (decide (hv H m < 0) || decide (hv H (stepF s m x).1.toNat < hv H m - (stepF s m x).2)))
def holdsE (s : Es) (H : List Int) (m : Nat) : Bool :=
  if hv H m < -1 ∨ safeF s m = false then decide (hv H m = -1) else if livF s m = true ∧ hv H m ≠ 0 then false else (stagesL s).all (stOK s H m)
set_option maxRecDepth 100000 in
theorem rholds_calls (Γ : Nat → Option (List AV)) (s : Es) (H : List Int) (m : Nat) (h : AH) (hs : EsR s) (hH : H.length = 2 ^ s.heirs.length) (hm : m < 2 ^ s.heirs.length) (hb : hv H m ≤ 9223372036854775807) :
    ACalls Try.prog Γ 39 [encEs s, .sl (encI H) .free, .int .i64 m] h fun v h' => h' = h ∧ v = .bool (holdsE s H m) := by
  have c1 := fun x h => rstep_calls Γ s m x h hs.L (hs.small hm)
  have c2 := fun (k : Nat) (hk : k < 2 ^ s.heirs.length) h => rsafe_calls Γ s k h hs.toEsOK (by omega) (by have := hs.small hk; omega)
  have c3 := fun h => rliving_calls Γ s m h hs.toEsOK (by omega) (by have := hs.small hm; omega)
  have c4 := fun h => rstages_calls Γ s h hs.L
  have e0 := hv_get (H := H) (i := m) (by omega)
  have hsm := hs.small hm
  refine ACalls.drop ?_
  simp only [encEs, esC, encSg] at c1 c2 c3 c4 ⊢
  refine acalls_code (rs := [.tmp 6]) Try.func39 rfl rfl rfl rfl Ty.mixed (by kernel_rfl) ?_
  simp (disch := omega) only [go_sem, seval, encI_len]
  simp (disch := omega) only [go_sem, seval, e0, Int.toNat_natCast]
  have hb0 : holdsE s H m = if hv H m < -1 ∨ safeF s m = false then decide (hv H m = -1) else if livF s m = true ∧ hv H m ≠ 0 then false else (stagesL s).all (stOK s H m) := rfl
  refine aIf.intro (fun h1 => ?_) (fun h1 => ?_) <;> simp (disch := omega) only [go_sem, seval, e0, encI_len, Int.toNat_natCast]
  · rw [hb0, if_pos (.inl h1)]
  refine ACalls.det (c2 m hm _) ?_
  simp (disch := omega) only [go_sem, seval]
  cases hsf : safeF s m with
  | false =>
    rw [hb0, if_pos (.inr hsf)]
    simp (disch := omega) only [go_sem, seval, e0, encI_len, Int.toNat_natCast]
  | true =>
  rw [if_neg (by rw [hsf]; simp; omega)] at hb0
  simp (disch := omega) only [go_sem, seval]
  refine ACalls.det (c3 _) ?_
  simp (disch := omega) only [go_sem, seval]
  have hge : -1 ≤ hv H m := by omega
  cases hlf : livF s m <;> simp (disch := omega) only [go_sem, seval, e0, encI_len, Int.toNat_natCast]
  rotate_left
  refine aIf.intro (fun h2 => ?_) (fun h2 => ?_) <;> simp (disch := omega) only [go_sem, seval]
  rotate_left
  · rw [hb0, if_pos ⟨hlf, h2⟩]
  all_goals
    have hn : ¬ ((livF s m = true) ∧ hv H m ≠ 0) := by simp [*]
    rw [if_neg hn] at hb0
    refine ACalls.det (c4 _) ?_
    simp (disch := omega) only [go_sem, seval]
    have hl38 : (stagesL s).length ≤ 100 := by simp [stagesL]; have := hs.h; omega
    refine awp_loopL (β := Unit) (stagesL s) [1, 2, 3, 7, 8] (fun don _ => [(1, .sl (encI H) .free), (2, .int .i64 m), (3, .ptr (some (h.length, 0))), (7, .sl ((stagesL s).map encSg) .free), (8, .int .i64 don.length)]) (fun _ => h ++ [.row (esC s) 26]) (fun don _ _ => ∀ x ∈ don, stOK s H m x = true) () ?_ rfl (by simp) Ty.mixed (by kernel_rfl) ?_ ?_
    · simp (disch := omega) only [go_sem, seval]
    · rintro don x r _ hd ho
      have hlen : (stagesL s).length = don.length + 1 + r.length := by rw [hd]; simp; omega
      have e1 : ((stagesL s).map encSg)[don.length]? = some (encSg x) := by rw [hd]; simp
      have c1 := c1 x
      have hlt := step_lt (s := s) (x := x) hm
      have hst := step_cost hs m x
      have hok : stOK s H m x = !(decide (0 ≤ (stepF s m x).1) && safeF s (stepF s m x).1 && decide (0 ≤ hv H (stepF s m x).1.toNat) && (decide (hv H m < 0) || decide (hv H (stepF s m x).1.toNat < hv H m - (stepF s m x).2))) := rfl
      have next : stOK s H m x = true → ∀ y ∈ don ++ [x], stOK s H m y = true := fun e y hy => by
        rcases List.mem_append.1 hy with hy | hy
        · exact ho y hy
        · rw [List.mem_singleton] at hy; subst hy; exact e
      have stop : stOK s H m x = false → (stagesL s).all (stOK s H m) = false := fun e => List.all_eq_false.2 ⟨x, by rw [hd]; simp, by rw [e]; simp⟩
      obtain ⟨⟨z1, z2⟩, hz⟩ : ∃ z, stepF s m x = z := ⟨_, rfl⟩
      rw [hz] at c1 hlt hst hok
      simp only at c1 hlt hst hok
      clear hz
      have e1 : ((stagesL s).map encSg)[don.length]? = some (.agg [.int .i64 x.kind, .int .i64 x.person]) := e1
      simp only [esC]
      simp (disch := omega) only [go_sem, seval, List.length_map]
      refine aIf.pos (by omega) ?_
      simp (disch := omega) only [go_sem, seval, e1, List.length_map]
      refine aCallF.intro (fun _ => c1 _) ?_
      simp (disch := omega) only [go_sem, seval]
      by_cases hz0 : 0 ≤ z1
      · obtain ⟨k, rfl⟩ := Int.eq_ofNat_of_zero_le hz0
        rw [Int.toNat_natCast] at hlt hok
        have hlt := hlt (by omega)
        have e5 := hv_get (H := H) (i := k) (by omega)
        refine aIf.pos (by omega) ?_
        simp (disch := omega) only [go_sem, seval]
        refine aCallF.intro (fun _ => c2 k hlt _) ?_
        simp (disch := omega) only [go_sem, seval]
        cases hsk : safeF s k with
        | false =>
          simp (disch := omega) only [go_sem, seval, e5, encI_len, Int.toNat_natCast]
          refine roundL_next () (next (by rw [hok, hsk]; simp)) ?_ rfl
          simp (disch := omega) only [go_sem, seval, List.length_append]
        | true =>
        simp (disch := omega) only [go_sem, seval, e5, encI_len, Int.toNat_natCast]
        refine aIf.intro (fun h3 => ?_) (fun h3 => ?_) <;> simp (disch := omega) only [go_sem, seval, e0, encI_len, Int.toNat_natCast]
        · refine aIf.intro (fun h4 => ?_) (fun h4 => ?_) <;> simp (disch := omega) only [go_sem, seval, e0, e5, encI_len, Int.toNat_natCast]
          · rw [hb0, stop (by rw [hok, hsk, decide_eq_true h3, decide_eq_true h4]; simp)]
          · have hw : IntKind.i64.wrap (hv H m - z2) = hv H m - z2 := by rw [IntKind.wrap_i64]; omega
            refine aIf.intro (fun h5 => ?_) (fun h5 => ?_) <;> simp (disch := omega) only [go_sem, seval]
            · rw [hb0, stop (by rw [hok, hsk, decide_eq_true h3, decide_eq_true h5]; simp)]
            · refine roundL_next () (next (by rw [hok, hsk, decide_eq_false h4, decide_eq_false h5]; simp)) ?_ rfl
              simp (disch := omega) only [go_sem, seval, List.length_append]
        · refine roundL_next () (next (by rw [hok, hsk, decide_eq_false h3]; simp)) ?_ rfl
          simp (disch := omega) only [go_sem, seval, List.length_append]
      · refine aIf.neg (by omega) ?_
        simp (disch := omega) only [go_sem, seval]
        refine roundL_next () (next (by rw [hok, decide_eq_false hz0]; simp)) ?_ rfl
        simp (disch := omega) only [go_sem, seval, List.length_append]
    · rintro _ ho
      simp only [esC]
      simp (disch := omega) only [go_sem, seval, List.length_map]
      refine AWP.keep [] (aCode_ok Ty.mixed _ _ _ _ (by kernel_rfl) ?_)
      simp (disch := omega) only [go_sem, seval]
      rw [hb0, List.all_eq_true.2 ho]
end Go.Proofs.Ytaepdkjfaeepmaa
