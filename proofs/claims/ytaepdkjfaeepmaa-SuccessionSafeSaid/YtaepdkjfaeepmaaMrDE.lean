/- Texts joined: SucM, SucN, SucO. No conditions. -/
import Derived.Test.YtaepdkjfaeepmaaMrDD
/- Plans: the way that the table shows. The reference's leads, Prove. No conditions. -/
set_option linter.unusedSimpArgs false
set_option linter.unusedVariables false
namespace Go.Proofs.Ytaepdkjfaeepmaa
open Go Go.Proofs Go.Abs

def leadF (s : Es) (m : Nat) (x : Sg) : Bool :=
  decide (0 ≤ (stepF s m x).1) && decide (0 ≤ (tabF (tabE s) (stepF s m x).1.toNat).1) && decide ((tabF (tabE s) (stepF s m x).1.toNat).1 + (stepF s m x).2 = (tabF (tabE s) m).1) && decide ((tabF (tabE s) (stepF s m x).1.toNat).2 + 1 = (tabF (tabE s) m).2)
def pathF (s : Es) : Nat → Nat → List Sg
  | 0, _ => []
  | k + 1, m => match (stagesL s).find? (leadF s m) with
    | some x => x :: pathF s k (stepF s m x).1.toNat
    | none => []
theorem tabE_len (s : Es) : (tabE s).length = 2 ^ s.heirs.length := tabG_len _
theorem tabE_right {s : Es} (hs : EsR s) {m : Nat} (hm : m < 2 ^ s.heirs.length) : Right (grOf s) m (tabF (tabE s) m) := tabG_right (grOf_good hs) hm
theorem lead_iff {s : Es} {m : Nat} {x : Sg} : leadF s m x = true ↔ 0 ≤ (stepF s m x).1 ∧ 0 ≤ (tabF (tabE s) (stepF s m x).1.toNat).1 ∧ (tabF (tabE s) (stepF s m x).1.toNat).1 + (stepF s m x).2 = (tabF (tabE s) m).1 ∧ (tabF (tabE s) (stepF s m x).1.toNat).2 + 1 = (tabF (tabE s) m).2 := by
  simp [leadF, and_assoc]
/-- From where a succession is, some stage leads on. -/
theorem lead_ex {s : Es} (hs : EsR s) {m : Nat} (hm : m < 2 ^ s.heirs.length) (h0 : 0 ≤ (tabF (tabE s) m).1) (hk : 0 < (tabF (tabE s) m).2) : ∃ x ∈ stagesL s, leadF s m x = true := by
  have hg := grOf_good hs
  have hR := tabE_right hs hm
  have hw : Wk (grOf s) m (tabF (tabE s) m).1 (tabF (tabE s) m).2 := by
    rcases hR with ⟨_, h, _⟩ | ⟨e, _⟩
    · exact h
    · rw [e] at h0; simp at h0
  obtain ⟨t, p, h1, h2, h3⟩ := Right.tail (c := (tabF (tabE s) m).1) (k := (tabF (tabE s) m).2) hg hR hw hk
  have ht := hg.ins _ _ _ hm h1
  have hu := (tabE_right hs ht).unique h2
  obtain ⟨x, hx, e⟩ := mem_ways.1 h1
  refine ⟨x, hx, lead_iff.2 ?_⟩
  rw [e, Int.toNat_natCast, hu]
  have := h3.pos hg
  refine ⟨by simp, this, by simp only; omega, by simp only; omega⟩
theorem find_lead {s : Es} (hs : EsR s) {m : Nat} (hm : m < 2 ^ s.heirs.length) (h0 : 0 ≤ (tabF (tabE s) m).1) (hk : 0 < (tabF (tabE s) m).2) : ∃ x, (stagesL s).find? (leadF s m) = some x ∧ leadF s m x = true := by
  obtain ⟨x, hx, hl⟩ := lead_ex hs hm h0 hk
  cases e : (stagesL s).find? (leadF s m) with
  | none => exact absurd hl (by simpa using List.find?_eq_none.1 e x hx)
  | some y => exact ⟨y, rfl, List.find?_some e⟩
theorem path_len {s : Es} (hs : EsR s) : ∀ (k m : Nat), m < 2 ^ s.heirs.length → 0 ≤ (tabF (tabE s) m).1 → (tabF (tabE s) m).2 = k → (pathF s k m).length = k
  | 0, _, _, _, _ => rfl
  | k + 1, m, hm, h0, hk => by
    obtain ⟨x, h1, h2⟩ := find_lead hs hm h0 (by omega)
    obtain ⟨a, b, c, d⟩ := lead_iff.1 h2
    rw [pathF, h1]
    simp only [List.length_cons]
    rw [path_len hs k _ (step_lt hm (by omega)) b (by omega)]
/-- The way that the table shows costs what the table says. -/
theorem path_walk {s : Es} (hs : EsR s) : ∀ (k m : Nat), m < 2 ^ s.heirs.length → 0 ≤ (tabF (tabE s) m).1 → (tabF (tabE s) m).2 = k → walkF s m (pathF s k m) = some (tabF (tabE s) m).1
  | 0, m, hm, h0, hk => by
    have hR := tabE_right hs hm
    rcases hR with ⟨_, h, _⟩ | ⟨e, _⟩
    · rw [hk] at h
      generalize hc : (tabF (tabE s) m).1 = c at *
      cases h with
      | fin h1 h2 =>
        have h1 : safeF s m = true := h1
        have h2 : livF s m = true := h2
        rw [pathF, walkF, h1, h2]; rfl
    · rw [e] at h0; simp at h0
  | k + 1, m, hm, h0, hk => by
    obtain ⟨x, h1, h2⟩ := find_lead hs hm h0 (by omega)
    obtain ⟨a, b, c, d⟩ := lead_iff.1 h2
    have hsf : safeF s m = true := by
      rcases tabE_right hs hm with ⟨_, h, _⟩ | ⟨e, _⟩
      · exact h.safe
      · rw [e] at h0; simp at h0
    rw [pathF, h1]
    simp only
    rw [walkF, hsf, if_neg (by simp; omega), path_walk hs k _ (step_lt hm (by omega)) b (by omega)]
    simp only [Option.map_some, Option.some.injEq]
    omega
theorem tabE_get {s : Es} {m : Nat} (hm : m < 2 ^ s.heirs.length) : ((tabE s).map encP2)[m]? = some (.agg [.int .i64 (tabF (tabE s) m).1, .int .i64 (tabF (tabE s) m).2]) := by
  rw [List.getElem?_map, tabF_get (by rw [tabE_len]; exact hm)]; rfl
theorem tabE_bound {s : Es} (hs : EsR s) {m : Nat} (hm : m < 2 ^ s.heirs.length) : -1 ≤ (tabF (tabE s) m).1 ∧ (tabF (tabE s) m).1 ≤ 1048576 * 1048576 ∧ (tabF (tabE s) m).2 ≤ 1048576 := by
  have hN : 2 ^ s.heirs.length ≤ 524288 := by
    have := Nat.pow_le_pow_right (n := 2) (by decide) hs.h
    rw [two19] at this; exact this
  have hpr : ∀ {m c k}, Wk (grOf s) m c k → c ≤ 1048576 * k := fun h => by
    induction h with
    | fin => simp
    | @step m t p c k _ h2 _ ih =>
      obtain ⟨x, _, e⟩ := mem_ways.1 h2
      have := (step_cost hs m x).2
      rw [e] at this
      simp only at this; omega
  have hR := tabE_right hs hm
  by_cases h0 : 0 ≤ (tabF (tabE s) m).1
  · have h1 := hR.short (grOf_good hs) hm h0
    rcases hR with ⟨h2, h3, _⟩ | ⟨e, _⟩
    · have := hpr h3
      have hh : (tabF (tabE s) m).2 < 2 ^ s.heirs.length := h1
      omega
    · rw [e] at h0; simp at h0
  · rcases hR with ⟨h2, _⟩ | ⟨e, _⟩
    · exact absurd h2 h0
    · rw [e]; decide
set_option maxHeartbeats 1000000 in
set_option maxRecDepth 100000 in
theorem rleads_calls (Γ : Nat → Option (List AV)) (s : Es) (m : Nat) (x : Sg) (h : AH) (hs : EsR s) (hm : m < 2 ^ s.heirs.length) :
    ACalls Try.prog Γ 33 [encEs s, .sl ((tabE s).map encP2) .free, .int .i64 m, encSg x] h fun v h' => h' = h ∧ v = .bool (leadF s m x) := by
  have c1 := fun h => rstep_calls Γ s m x h hs.L (hs.small hm)
  refine ACalls.drop ?_
  simp only [encEs, esC, encSg] at c1 ⊢
  refine acalls_code (rs := [.tmp 8]) Try.func33 rfl rfl rfl rfl Ty.mixed (by kernel_rfl) ?_
  simp (disch := omega) only [go_sem, seval]
  refine ACalls.det (c1 _) ?_
  simp (disch := omega) only [go_sem, seval]
  have hlt := step_lt (s := s) (x := x) hm
  have hst := step_cost hs m x
  have hdef : leadF s m x = (decide (0 ≤ (stepF s m x).1) && decide (0 ≤ (tabF (tabE s) (stepF s m x).1.toNat).1) && decide ((tabF (tabE s) (stepF s m x).1.toNat).1 + (stepF s m x).2 = (tabF (tabE s) m).1) && decide ((tabF (tabE s) (stepF s m x).1.toNat).2 + 1 = (tabF (tabE s) m).2)) := rfl
  obtain ⟨⟨z1, z2⟩, hz⟩ : ∃ z, stepF s m x = z := ⟨_, rfl⟩
  rw [hz] at hlt hst hdef ⊢
  simp only at hlt hst hdef ⊢
  have em := tabE_get hm
  have bm := tabE_bound hs hm
  have hl := tabE_len s
  rw [hdef]
  refine aIf.intro (fun h1 => ?_) (fun h1 => ?_) <;> simp (disch := omega) only [go_sem, seval]
  · obtain ⟨k, rfl⟩ := Int.eq_ofNat_of_zero_le h1
    have hlt : k < 2 ^ s.heirs.length := by have := hlt (by omega); rwa [Int.toNat_natCast] at this
    have ek := tabE_get hlt
    have bk := tabE_bound hs hlt
    simp (disch := omega) only [go_sem, seval, Int.toNat_natCast, ek]
    refine aIf.intro (fun h2 => ?_) (fun h2 => ?_) <;> simp (disch := omega) only [go_sem, seval, ek, em, Int.toNat_natCast]
    · refine aIf.intro (fun h3 => ?_) (fun h3 => ?_) <;> simp (disch := omega) only [go_sem, seval, ek, em, Int.toNat_natCast]
      · rw [decide_eq_true h2, decide_eq_true h3]
        simp only [Bool.true_and, AV.bool.injEq]
        exact decide_eq_decide.2 (by omega)
      · simp [h3]
    · simp [h2]
  · simp [h1]
theorem loose_I (l : List Int) : looseL (encI l) = encI l := looseL_maps _ (fun _ => by rw [loose]) l
theorem rb_I (n : Nat) (l : List Int) : RB n (.sl (encI l) .free) = True := eq_true (.sl' fun r hr => by
  obtain ⟨i, _, rfl⟩ := List.mem_map.1 hr; exact .int _ _)
theorem rowsOK_I (l : List Int) : RowsOK 1 (encI l) := RowsOK.int l
attribute [go_sem] loose_I rb_I
theorem encI_snoc (l : List Int) (x : Int) : encI l ++ [.int .i64 x] = encI (l ++ [x]) := by simp [encI]
theorem encI_nil : encI [] = [] := rfl
structure FlS where
  l : List Int
  own : Abs.Own
  j : AH
/-- What a proof says. -/
def prf (s : Es) : List Int := (tabE s).map (·.1)
theorem prf_len (s : Es) : (prf s).length = 2 ^ s.heirs.length := by rw [prf, List.length_map, tabE_len]
set_option maxRecDepth 100000 in
theorem rprove_calls (Γ : Nat → Option (List AV)) (s : Es) (h : AH) (hs : EsL s) :
    ACalls Try.prog Γ 17 [encEs s] h fun v h' => h' = h ∧ v = .tuple [.sl (encI (if checkE s = 0 then prf s else [])) .free, .int .i64 (checkE s)] := by
  have c1 := fun h => rcheck52_calls Γ s h hs
  refine ACalls.dropL ?_
  simp only [encEs, esC] at c1 ⊢
  refine acalls_code (rs := [.tmp 2, .tmp 3]) Try.func17 rfl rfl rfl rfl Ty.mixed (by kernel_rfl) ?_
  simp (disch := omega) only [go_sem, seval]
  refine ACalls.det (c1 _) ?_
  simp (disch := omega) only [go_sem, seval]
  refine aIf.intro (fun h1 => ?_) (fun h1 => ?_) <;> simp (disch := omega) only [go_sem, seval]
  rotate_left
  · rw [if_neg h1]
    rfl
  obtain ⟨hl, _, hr⟩ := check0 h1
  have hR := right_esR hs hr (by omega)
  have c2 := fun h => rcosts_calls Γ s h hR hl
  simp only [encEs, esC] at c2
  refine ACalls.det (c2 _) ?_
  simp (disch := omega) only [go_sem, seval]
  have hlen := tabE_len s
  have h1024 : 2 ^ s.heirs.length ≤ 1024 := Nat.pow_le_pow_right (n := 2) (by decide) hl
  refine awp_loopL (β := FlS) (tabE s) [5, 6, 7] (fun don w => [(5, .sl ((tabE s).map encP2) .free), (6, .sl (encI w.l) w.own), (7, .int .i64 don.length)]) (fun w => h ++ w.j)
    (fun don _ w => OwnAt h w.j w.l.length w.own ∧ w.l = don.map (·.1)) ⟨[], .full, [.row (esC s) 26]⟩ ?_ rfl ⟨trivial, rfl⟩ Ty.mixed (by kernel_rfl) ?_ ?_
  · simp (disch := omega) only [go_sem, seval, List.length_nil, encI_nil, esC]
  · rintro don x r ⟨l, own, j⟩ hd ⟨ho, hl2⟩
    simp only at ho hl2 ⊢
    have hlen2 : (tabE s).length = don.length + 1 + r.length := by rw [hd]; simp; omega
    have e1 : ((tabE s).map encP2)[don.length]? = some (.agg [.int .i64 x.1, .int .i64 x.2]) := by rw [hd]; simp [encP2]
    have hll : l.length = don.length := by rw [hl2]; simp
    simp (disch := omega) only [go_sem, seval, List.length_map]
    refine aIf.pos (by omega) ?_
    simp (disch := omega) only [go_sem, seval, e1]
    refine aAp_sl (by rw [encI_len]; exact ho) (rowsOK_I _) (rowsOK_I [x.1]) (by simp [encI_len]; omega) (by simp [encI_len]; omega) fun j' own' ho' hg => ?_
    rw [encI_snoc]
    simp (disch := omega) only [go_sem, seval]
    refine roundL_next (⟨l ++ [x.1], own', j'⟩ : FlS) ⟨by simpa [encI_len] using ho', by rw [hl2]; simp⟩ ?_ rfl
    simp (disch := omega) only [go_sem, seval, List.length_append]
  · rintro ⟨l, own, j⟩ ⟨ho, hl2⟩
    simp only at ho hl2 ⊢
    simp (disch := omega) only [go_sem, seval, List.length_map]
    refine AWP.keep [6] (aCode_ok Ty.mixed _ _ _ _ (by kernel_rfl) ?_)
    simp (disch := omega) only [go_sem, seval, loose_I, rb_I]
    rw [if_pos h1, hl2, h1]
    rfl
end Go.Proofs.Ytaepdkjfaeepmaa

/- States of members as numbers; the reference's Plan, Accepts, Few. No conditions. -/
set_option linter.unusedSimpArgs false
set_option linter.unusedVariables false
namespace Go.Proofs.Ytaepdkjfaeepmaa
open Go Go.Proofs Go.Abs

def Srt (hs : List Hr) : Prop := hs.Pairwise fun x y => x.person < y.person
theorem okH_srt {s : Es} : ∀ (l : List Hr) (o : Option Int) (i : Nat), okH s o i l = true → (∀ x ∈ l, ltO o x.person = true) ∧ Srt l
  | [], _, _, _ => ⟨by simp, .nil⟩
  | x :: r, o, i, h => by
    rw [okH, Bool.and_eq_true] at h
    obtain ⟨h1, h2⟩ := okH_srt r _ _ h.2
    have hx : ltO o x.person = true := by
      have := h.1
      simp only [okX, Bool.and_eq_true] at this
      exact this.1.1.1.1.2
    have h1' : ∀ y ∈ r, x.person < y.person := fun y hy => by have := h1 y hy; simpa [ltO] using this
    refine ⟨fun y hy => ?_, .cons h1' h2⟩
    rcases List.mem_cons.1 hy with rfl | hy
    · exact hx
    · have := h1' y hy
      cases o with
      | none => rfl
      | some z => simp only [ltO, decide_eq_true_eq] at hx ⊢; omega
theorem right_srt {s : Es} (h : rightE s = true) : Srt s.heirs := by
  simp only [rightE, Bool.and_eq_true] at h
  exact (okH_srt _ _ _ h.1.2).2
theorem heirI_spec (p : Int) : ∀ (hs : List Hr), 0 ≤ heirI hs p → ∃ x, hs[(heirI hs p).toNat]? = some x ∧ x.person = p
  | [], h => by simp [heirI] at h
  | x :: r, h => by
    rw [heirI] at h ⊢
    split
    · rename_i e; exact ⟨x, by simp, e⟩
    · rename_i e
      rw [if_neg e] at h
      split at h
      · omega
      · rename_i e2
        rw [if_neg e2]
        obtain ⟨y, h1, h2⟩ := heirI_spec p r (by omega)
        refine ⟨y, ?_, h2⟩
        rw [show (heirI r p + 1).toNat = (heirI r p).toNat + 1 by omega, List.getElem?_cons_succ]
        exact h1
theorem heirI_mono {hs : List Hr} (hp : Srt hs) {x y : Int} (hx : 0 ≤ heirI hs x) (hy : 0 ≤ heirI hs y) (h : x < y) : (heirI hs x).toNat < (heirI hs y).toNat := by
  obtain ⟨a, a1, a2⟩ := heirI_spec x hs hx
  obtain ⟨b, b1, b2⟩ := heirI_spec y hs hy
  obtain ⟨ha, ea⟩ := List.getElem?_eq_some_iff.1 a1
  obtain ⟨hb, eb⟩ := List.getElem?_eq_some_iff.1 b1
  refine Nat.lt_of_not_le fun hle => ?_
  rcases Nat.lt_or_eq_of_le hle with hlt | he
  · have := List.pairwise_iff_getElem.1 hp _ _ hb ha hlt
    rw [ea, eb, a2, b2] at this; omega
  · simp only [he] at eb
    rw [eb] at ea
    subst ea; omega
def numN (hs : List Hr) (l : List Int) : Nat := (l.map fun p => 2 ^ (heirI hs p).toNat).sum
theorem numF_eq (s : Es) (l : List Int) : numF s l = (numN s.heirs l : Int) := by
  induction l with
  | nil => rfl
  | cons x r ih =>
    have e : numF s (x :: r) = 2 ^ (heirI s.heirs x).toNat + numF s r := by simp [numF]
    have e2 : numN s.heirs (x :: r) = 2 ^ (heirI s.heirs x).toNat + numN s.heirs r := by simp [numN]
    rw [e, e2, ih, Int.natCast_add, Int.natCast_pow]; rfl
theorem or_pow {a i : Nat} (h : a < 2 ^ i) : a ||| 2 ^ i = a + 2 ^ i := by
  have := Nat.two_pow_add_eq_or_of_lt h 1
  rw [Nat.mul_one] at this
  rw [Nat.or_comm, ← this, Nat.add_comm]
def orN (hs : List Hr) (a : Nat) (l : List Int) : Nat := l.foldl (fun m p => m ||| 2 ^ (heirI hs p).toNat) a
theorem num_or {hs : List Hr} (hp : Srt hs) : ∀ (l : List Int) (o : Option Int) (a b : Nat), hsF hs o l = true → a < 2 ^ b → b ≤ hs.length → (∀ x, 0 ≤ heirI hs x → ltO o x = true → b ≤ (heirI hs x).toNat) →
    a + numN hs l < 2 ^ hs.length ∧ orN hs a l = a + numN hs l
  | [], o, a, b, _, ha, hb, _ => by
    have := Nat.pow_le_pow_right (n := 2) (by decide) hb
    exact ⟨by simp [numN]; omega, by simp [orN, numN]⟩
  | x :: r, o, a, b, h, ha, hb, hi => by
    simp only [hsF, Bool.and_eq_true, decide_eq_true_eq] at h
    obtain ⟨⟨h1, h2⟩, h3⟩ := h
    have hx := hi x h1 h2
    have hlt := heirI_lt x hs
    have ha2 : a < 2 ^ (heirI hs x).toNat := Nat.lt_of_lt_of_le ha (Nat.pow_le_pow_right (by decide) hx)
    have e2 : numN hs (x :: r) = 2 ^ (heirI hs x).toNat + numN hs r := by simp [numN]
    obtain ⟨k1, k2⟩ := num_or hp r (some x) (a + 2 ^ (heirI hs x).toNat) ((heirI hs x).toNat + 1) h3 (by rw [Nat.pow_succ]; omega) (by omega) fun y hy1 hy2 => heirI_mono hp h1 hy1 (by simpa [ltO] using hy2)
    refine ⟨by rw [e2]; omega, ?_⟩
    have e3 : orN hs a (x :: r) = orN hs (a ||| 2 ^ (heirI hs x).toNat) r := rfl
    rw [e3, or_pow ha2, k2, e2]; omega
theorem num_lt {hs : List Hr} (hp : Srt hs) {l : List Int} (h : hsF hs none l = true) : numN hs l < 2 ^ hs.length ∧ orN hs 0 l = numN hs l := by
  have := num_or hp l none 0 0 h (by simp) (Nat.zero_le _) fun _ _ _ => Nat.zero_le _
  simpa using this
/-- What Plan answers. -/
structure PlA where
  l : List Sg
  c : Int
  ok : Bool
  e : Int
def planF (s : Es) : PlA :=
  if checkE s ≠ 0 then ⟨[], 0, false, checkE s⟩
  else if (tabF (tabE s) (numN s.heirs s.members)).1 < 0 then ⟨[], 0, false, 0⟩
  else ⟨pathF s (tabF (tabE s) (numN s.heirs s.members)).2 (numN s.heirs s.members), (tabF (tabE s) (numN s.heirs s.members)).1, true, 0⟩
def encPl (x : PlA) : AV := .tuple [.sl (x.l.map encSg) .free, .int .i64 x.c, .bool x.ok, .int .i64 x.e]
structure WlS where
  m : Nat
  l : List Sg
  own : Abs.Own
  j : AH
theorem encSg_snoc (l : List Sg) (x : Sg) : l.map encSg ++ [encSg x] = (l ++ [x]).map encSg := by simp
set_option maxHeartbeats 1000000 in
set_option maxRecDepth 100000 in
theorem rplan_calls (Γ : Nat → Option (List AV)) (s : Es) (h : AH) (hs : EsL s) (hml : s.members.length ≤ 100000) :
    ACalls Try.prog Γ 12 [encEs s] h fun v h' => h' = h ∧ v = encPl (planF s) := by
  have c1 := fun h => rcheck52_calls Γ s h hs
  refine ACalls.dropL ?_
  simp only [encEs, esC] at c1 ⊢
  refine acalls_code (rs := [.tmp 2, .tmp 3, .tmp 4, .tmp 5]) Try.func12 rfl rfl rfl rfl Ty.mixed (by kernel_rfl) ?_
  simp (disch := omega) only [go_sem, seval]
  refine ACalls.det (c1 _) ?_
  simp (disch := omega) only [go_sem, seval]
  have hpl : planF s = if checkE s ≠ 0 then ⟨[], 0, false, checkE s⟩ else if (tabF (tabE s) (numN s.heirs s.members)).1 < 0 then ⟨[], 0, false, 0⟩ else ⟨pathF s (tabF (tabE s) (numN s.heirs s.members)).2 (numN s.heirs s.members), (tabF (tabE s) (numN s.heirs s.members)).1, true, 0⟩ := rfl
  refine aIf.intro (fun h1 => ?_) (fun h1 => ?_) <;> simp (disch := omega) only [go_sem, seval]
  rotate_left
  · rw [hpl, if_pos h1]; rfl
  rw [if_neg (by simpa using h1)] at hpl
  obtain ⟨hl, _, hr⟩ := check0 h1
  have hR := right_esR hs hr (by omega)
  have hnum : numN s.heirs s.members < 2 ^ s.heirs.length := by
    simp only [rightE, Bool.and_eq_true] at hr
    exact (num_lt (okH_srt _ _ _ hr.1.2).2 hr.1.1.1.2).1
  have c2 := fun h => rcosts_calls Γ s h hR hl
  have c3 := fun h => rnumber_calls Γ s s.members h (by omega) hml
  have c4 := fun h => rstages_calls Γ s h hR.L
  have c5 := fun (m : Nat) x (hm : m < 2 ^ s.heirs.length) h => rleads_calls Γ s m x h hR hm
  have c6 := fun (m : Nat) x (hm : m < 2 ^ s.heirs.length) h => rstep_calls Γ s m x h hR.L (hR.small hm)
  rw [numF_eq] at c3
  generalize numN s.heirs s.members = m0 at *
  simp only [encEs, esC, encSg] at c2 c3 c4 c5 c6
  refine ACalls.det (c2 _) ?_
  simp (disch := omega) only [go_sem, seval]
  refine ACalls.det (c3 _) ?_
  have e0 := tabE_get hnum
  simp (disch := omega) only [go_sem, seval, Int.toNat_natCast, e0]
  refine aIf.intro (fun h2 => ?_) (fun h2 => ?_) <;> simp (disch := omega) only [go_sem, seval]
  · rw [hpl, if_pos h2]; rfl
  rw [if_neg h2] at hpl
  refine ACalls.det (c4 _) ?_
  simp (disch := omega) only [go_sem, seval]
  have bm := fun {m : Nat} (hm : m < 2 ^ s.heirs.length) => tabE_bound hR hm
  have hl38 : (stagesL s).length ≤ 100 := by simp [stagesL]; omega
  have b0 := bm hnum
  refine awp_loopS (α := WlS) [1, 7, 8, 9, 10, 11] (fun w => [(1, .ptr (some (h.length, 0))), (7, .sl ((tabE s).map encP2) .free), (8, .int .i64 w.m), (9, .int .i64 (tabF (tabE s) m0).1), (10, .sl ((stagesL s).map encSg) .free), (11, .sl (w.l.map encSg) w.own)]) (fun w => h ++ w.j)
    (fun w => w.j[0]? = some (.row (esC s) 26) ∧ OwnAt h w.j w.l.length w.own ∧ w.m < 2 ^ s.heirs.length ∧ 0 ≤ (tabF (tabE s) w.m).1 ∧ pathF s (tabF (tabE s) m0).2 m0 = w.l ++ pathF s (tabF (tabE s) w.m).2 w.m ∧ w.l.length + (tabF (tabE s) w.m).2 = (tabF (tabE s) m0).2)
    (fun w => (tabF (tabE s) w.m).2) ⟨m0, [], .full, [.row (esC s) 26]⟩ ?_ rfl ⟨rfl, trivial, hnum, by simp only; omega, rfl, by simp⟩ Ty.mixed (by kernel_rfl) ?_
  · simp (disch := omega) only [go_sem, seval, List.map_nil, encSg, esC]
  rintro ⟨m, l, own, j⟩ ⟨hj, ho, hm, hp0, hpath, hlk⟩
  simp only at hj ho hm hp0 hpath hlk ⊢
  have em := tabE_get hm
  have bmm := bm hm
  have gr0 : (h ++ j)[h.length]? = some (.row (esC s) 26) := by rw [List.getElem?_append_right (Nat.le_refl _), Nat.sub_self]; exact hj
  simp only [esC] at gr0
  simp (disch := omega) only [go_sem, seval, em, Int.toNat_natCast]
  refine aIf.intro (fun h3 => ?_) (fun h3 => ?_) <;> simp (disch := omega) only [go_sem, seval]
  rotate_left
  · refine AWP.keep [9, 11] (aCode_ok Ty.mixed _ _ _ _ (by kernel_rfl) ?_)
    simp (disch := omega) only [go_sem, seval, loose_Sg]
    have hk0 : (tabF (tabE s) m).2 = 0 := by omega
    rw [hk0] at hpath
    have hpath2 : pathF s (tabF (tabE s) m0).2 m0 = l := by rw [hpath]; simp [pathF]
    refine ⟨rb_Sg _ _, ?_⟩
    rw [hpl, ← hpath2]; rfl
  have hk : 0 < (tabF (tabE s) m).2 := by omega
  obtain ⟨y, hy1, hy2⟩ := find_lead hR hm hp0 hk
  have c5 := fun x h => c5 m x hm h
  have c6 := fun x h => c6 m x hm h
  have hlen := tabE_len s
  refine awp_loopL (β := Unit) (stagesL s) [1, 7, 8, 9, 10, 11, 12] (fun don _ => [(1, .ptr (some (h.length, 0))), (7, .sl ((tabE s).map encP2) .free), (8, .int .i64 m), (9, .int .i64 (tabF (tabE s) m0).1), (10, .sl ((stagesL s).map encSg) .free), (11, .sl (l.map encSg) own), (12, .int .i64 don.length)]) (fun _ => h ++ j)
    (fun don _ _ => ∀ x ∈ don, leadF s m x = false) () ?_ rfl (by simp) Ty.mixed (by kernel_rfl) ?_ ?_
  · simp (disch := omega) only [go_sem, seval, List.length_nil]
  · rintro don x r _ hd hno
    have hlen : (stagesL s).length = don.length + 1 + r.length := by rw [hd]; simp; omega
    have e1 : ((stagesL s).map encSg)[don.length]? = some (.agg [.int .i64 x.kind, .int .i64 x.person]) := by rw [hd]; simp [encSg]
    simp (disch := omega) only [go_sem, seval, gr0, e1, List.length_map]
    refine aCallF.intro (fun _ => c5 x _) ?_
    simp (disch := omega) only [go_sem, seval]
    cases hlx : leadF s m x with
    | false =>
      simp (disch := omega) only [go_sem, seval]
      refine roundL_next () ?_ ?_ rfl
      · intro z hz
        rcases List.mem_append.1 hz with hz | hz
        · exact hno z hz
        · rw [List.mem_singleton] at hz; subst hz; exact hlx
      · simp (disch := omega) only [go_sem, seval, List.length_append]
    | true =>
      have hyx : y = x := by
        have := List.find?_append (xs := don) (ys := x :: r) (p := leadF s m)
        rw [← hd, hy1, List.find?_eq_none.2 (fun z hz => by rw [hno z hz]; simp), List.find?_cons_of_pos hlx] at this
        simpa using this
      subst hyx
      obtain ⟨a1, a2, a3, a4⟩ := lead_iff.1 hlx
      simp (disch := omega) only [go_sem, seval]
      refine AWP.keep [1, 7, 8, 9, 10, 11, 12] (aCode_ok Ty.mixed _ _ _ _ (by kernel_rfl) ?_)
      simp (disch := omega) only [go_sem, seval, e1, List.length_map, Int.toNat_natCast]
      refine aAp_sl (by rw [List.length_map]; exact ho) (rowsOK_Sg _) (rowsOK_Sg [y]) (by simp; omega) (by simp; omega) fun j' own' ho' hg => ?_
      have hj' := hg.2 0 _ hj (fun n e => by cases e)
      have gr1 : (h ++ j')[h.length]? = some (.row (esC s) 26) := by rw [List.getElem?_append_right (Nat.le_refl _), Nat.sub_self]; exact hj'
      simp only [esC] at gr1
      simp (disch := omega) only [go_sem, seval, gr1, e1, Int.toNat_natCast, List.length_map]
      refine aCallF.intro (fun _ => c6 y _) ?_
      simp (disch := omega) only [go_sem, seval]
      have hst : stepF s m y = (((stepF s m y).1.toNat : Int), (stepF s m y).2) := Prod.ext (by simp only; omega) rfl
      refine roundS_next (⟨(stepF s m y).1.toNat, l ++ [y], own', j'⟩ : WlS) (by simp only; omega) ⟨hj', by simpa using ho', step_lt hm (by omega), a2, ?_, by simp only [List.length_append, List.length_singleton]; omega⟩ ?_ rfl
      · simp only
        rw [hpath, ← a4, pathF, hy1]
        simp
      · rw [← encSg_snoc]
        simp (disch := omega) only [go_sem, seval, Int.toNat_of_nonneg a1]
        rfl
  · rintro _ hno
    exact absurd hy2 (by rw [hno y (List.mem_of_find?_eq_some hy1)]; simp)
end Go.Proofs.Ytaepdkjfaeepmaa

/- The reference's Accepts, Few. No conditions. -/
set_option linter.unusedSimpArgs false
set_option linter.unusedVariables false
namespace Go.Proofs.Ytaepdkjfaeepmaa
open Go Go.Proofs Go.Abs

def allH (s : Es) (H : List Int) : Bool := (List.range (2 ^ s.heirs.length)).all (holdsE s H)
def accE (s : Es) (l : List Sg) (H : List Int) : Bool × Int :=
  if checkE s ≠ 0 then (false, checkE s)
  else if H.length ≠ 2 ^ s.heirs.length then (false, 0)
  else if allH s H = false then (false, 0)
  else if hv H (numN s.heirs s.members) = -1 then (decide (l.length = 0), 0)
  else (decide (walkR s (numN s.heirs s.members) l = hv H (numN s.heirs s.members)), 0)
set_option maxHeartbeats 1000000 in
set_option maxRecDepth 100000 in
theorem raccepts_calls (Γ : Nat → Option (List AV)) (s : Es) (l : List Sg) (H : List Int) (h : AH) (hs : EsL s) (hml : s.members.length ≤ 100000) (hl : l.length ≤ 100000) (hH : ∀ x ∈ H, x ≤ 9223372036854775807) (hHl : H.length ≤ 9223372036854775807) :
    ACalls Try.prog Γ 19 [encEs s, .sl (l.map encSg) .free, .sl (encI H) .free] h fun v h' => h' = h ∧ v = .tuple [.bool (accE s l H).1, .int .i64 (accE s l H).2] := by
  have c1 := fun h => rcheck52_calls Γ s h hs
  refine ACalls.drop ?_
  simp only [encEs, esC] at c1 ⊢
  refine acalls_code (rs := [.tmp 6, .tmp 7]) Try.func19 rfl rfl rfl rfl Ty.mixed (by kernel_rfl) ?_
  simp (disch := omega) only [go_sem, seval]
  refine ACalls.det (c1 _) ?_
  simp (disch := omega) only [go_sem, seval]
  have hpl : accE s l H = if checkE s ≠ 0 then (false, checkE s) else if H.length ≠ 2 ^ s.heirs.length then (false, 0) else if allH s H = false then (false, 0) else if hv H (numN s.heirs s.members) = -1 then (decide (l.length = 0), 0) else (decide (walkR s (numN s.heirs s.members) l = hv H (numN s.heirs s.members)), 0) := rfl
  refine aIf.intro (fun h1 => ?_) (fun h1 => ?_) <;> simp (disch := omega) only [go_sem, seval]
  rotate_left
  · rw [hpl, if_pos h1]
  rw [if_neg (by simpa using h1)] at hpl
  obtain ⟨hl10, _, hr⟩ := check0 h1
  have hR := right_esR hs hr (by omega)
  have hnum : numN s.heirs s.members < 2 ^ s.heirs.length := by
    simp only [rightE, Bool.and_eq_true] at hr
    exact (num_lt (okH_srt _ _ _ hr.1.2).2 hr.1.1.1.2).1
  have hb : ∀ m, hv H m ≤ 9223372036854775807 := fun m => by
    unfold hv
    rw [List.getD_eq_getElem?_getD]
    cases e : H[m]? with
    | none => simp
    | some y => exact hH y (List.mem_of_getElem? e)
  have c0 := fun h => rstates_calls Γ s h hR.L
  have c2 := fun (m : Nat) (hHe : H.length = 2 ^ s.heirs.length) (hm : m < 2 ^ s.heirs.length) h => rholds_calls Γ s H m h hR hHe hm (hb m)
  have c3 := fun h => rnumber_calls Γ s s.members h (by omega) hml
  have c4 := fun (m : Nat) (hm : m < 2 ^ s.heirs.length) h => rwalk_calls Γ s m l h hR hm hl
  rw [numF_eq] at c3
  generalize numN s.heirs s.members = m0 at *
  have hall : allH s H = (List.range (2 ^ s.heirs.length)).all (holdsE s H) := rfl
  obtain ⟨N, hN⟩ : ∃ N, N = 2 ^ s.heirs.length := ⟨_, rfl⟩
  have hNi : (2 : Int) ^ s.heirs.length = (N : Int) := by rw [hN, Int.natCast_pow]; rfl
  rw [hNi] at c0
  rw [← hN] at c2 c4 hnum hpl hall
  simp only [encEs, esC] at c0 c2 c3 c4
  simp (disch := omega) only [go_sem, seval, encI_len]
  refine ACalls.det (c0 _) ?_
  simp (disch := omega) only [go_sem, seval]
  refine aIf.intro (fun h2 => ?_) (fun h2 => ?_) <;> simp (disch := omega) only [go_sem, seval]
  rotate_left
  · rw [hpl, if_pos (by omega)]
  have hHe : H.length = N := by omega
  rw [if_neg (by simpa using hHe)] at hpl
  refine awp_loopL (β := Unit) H [1, 2, 3, 9] (fun don _ => [(1, .sl (l.map encSg) .free), (2, .sl (encI H) .free), (3, .ptr (some (h.length, 0))), (9, .int .i64 don.length)]) (fun _ => h ++ [.row (esC s) 26])
    (fun don _ _ => ∀ i, i < don.length → holdsE s H i = true) () ?_ rfl (by simp) Ty.mixed (by kernel_rfl) ?_ ?_
  · simp (disch := omega) only [go_sem, seval, List.length_nil, esC]
  · rintro don x r _ hd ho
    have hlen : H.length = don.length + 1 + r.length := by rw [hd]; simp; omega
    simp only [esC]
    simp (disch := omega) only [go_sem, seval, encI_len]
    refine aIf.pos (by omega) ?_
    simp (disch := omega) only [go_sem, seval]
    refine ACalls.det (c2 don.length hHe (by omega) _) ?_
    simp (disch := omega) only [go_sem, seval]
    cases hx : holdsE s H don.length with
    | false =>
      simp (disch := omega) only [go_sem, seval]
      rw [hpl, if_pos]
      rw [hall, List.all_eq_false]
      exact ⟨don.length, List.mem_range.2 (by omega), by rw [hx]; simp⟩
    | true =>
      simp (disch := omega) only [go_sem, seval]
      refine roundL_next () ?_ ?_ rfl
      · intro i hi
        by_cases e : i = don.length
        · rw [e]; exact hx
        · exact ho i (by simp at hi; omega)
      · simp (disch := omega) only [go_sem, seval, List.length_append]
  · rintro _ ho
    have hal : allH s H = true := by
      rw [hall, List.all_eq_true]
      exact fun i hi => ho i (by rw [hHe]; exact List.mem_range.1 hi)
    rw [if_neg (by rw [hal]; simp)] at hpl
    simp only [esC]
    simp (disch := omega) only [go_sem, seval, encI_len]
    refine AWP.keep [1, 2, 3] (aCode_ok Ty.mixed _ _ _ _ (by kernel_rfl) ?_)
    simp (disch := omega) only [go_sem, seval]
    refine ACalls.det (c3 _) ?_
    have em := hv_get (H := H) (i := m0) (by omega)
    simp (disch := omega) only [go_sem, seval, em, Int.toNat_natCast]
    refine aIf.intro (fun h3 => ?_) (fun h3 => ?_) <;> simp (disch := omega) only [go_sem, seval, List.length_map]
    · rw [hpl, if_pos h3]
      simp
    · rw [if_neg h3] at hpl
      refine aCallF.intro (fun _ => c4 m0 hnum _) ?_
      simp (disch := omega) only [go_sem, seval, em, Int.toNat_natCast]
      rw [hpl]
def fewE (s : Es) : Bool :=
  if 20 < s.heirs.length ∨ 30 < s.members.length ∨ 30 < s.alive.length ∨ 30 < s.needs.length ∨ 20 < s.never.length then false
  else if s.never.all (fun c => decide (c.length ≤ 30)) = false then false else decide (s.heirs.length ≤ 4) || decide (checkE s ≠ 0)
set_option maxRecDepth 100000 in
theorem rfew52_calls (Γ : Nat → Option (List AV)) (s : Es) (h : AH) (hs : EsL s) :
    ACalls Try.prog Γ 10 [encEs s] h fun v h' => h' = h ∧ v = .bool (fewE s) := by
  have c1 := fun h => rcheck52_calls Γ s h hs
  have k1 := hs.h
  have k2 := hs.m
  have k3 := hs.a
  have k4 := hs.n
  have k5 := hs.v
  refine ACalls.drop ?_
  simp only [encEs, esC] at c1 ⊢
  refine acalls_code (rs := [.tmp 2]) Try.func10 rfl rfl rfl rfl Ty.mixed (by kernel_rfl) ?_
  have hdef : fewE s = if 20 < s.heirs.length ∨ 30 < s.members.length ∨ 30 < s.alive.length ∨ 30 < s.needs.length ∨ 20 < s.never.length then false else if s.never.all (fun c => decide (c.length ≤ 30)) = false then false else decide (s.heirs.length ≤ 4) || decide (checkE s ≠ 0) := rfl
  simp (disch := omega) only [go_sem, seval, encHs_len, encI_len, encNv_len]
  refine aIf.intro (fun h1 => ?_) (fun h1 => ?_) <;> simp (disch := omega) only [go_sem, seval, encHs_len, encI_len, encNv_len]
  · rw [hdef, if_pos (by omega)]
  refine aIf.intro (fun h2 => ?_) (fun h2 => ?_) <;> simp (disch := omega) only [go_sem, seval, encHs_len, encI_len, encNv_len]
  · rw [hdef, if_pos (by omega)]
  refine aIf.intro (fun h3 => ?_) (fun h3 => ?_) <;> simp (disch := omega) only [go_sem, seval, encHs_len, encI_len, encNv_len]
  · rw [hdef, if_pos (by omega)]
  refine aIf.intro (fun h4 => ?_) (fun h4 => ?_) <;> simp (disch := omega) only [go_sem, seval, encHs_len, encI_len, encNv_len]
  · rw [hdef, if_pos (by omega)]
  refine aIf.intro (fun h5 => ?_) (fun h5 => ?_) <;> simp (disch := omega) only [go_sem, seval, encHs_len, encI_len, encNv_len]
  · rw [hdef, if_pos (by omega)]
  rw [if_neg (by omega)] at hdef
  refine awp_loopL (β := Unit) s.never [1, 3] (fun don _ => [(1, .ptr (some (h.length, 0))), (3, .int .i64 don.length)]) (fun _ => h ++ [.row (esC s) 26]) (fun don _ _ => ∀ c ∈ don, c.length ≤ 30) () ?_ rfl (by simp) Ty.mixed (by kernel_rfl) ?_ ?_
  · simp (disch := omega) only [go_sem, seval, List.length_nil, esC]
  · rintro don x r _ hd hall
    have hlen : s.never.length = don.length + 1 + r.length := by rw [hd]; simp; omega
    have e1 : (encNv s.never)[don.length]? = some (.sl (encI x) .free) := by rw [hd]; exact encNv_get don r x
    have hx := hs.c x (by rw [hd]; simp)
    simp only [esC]
    simp (disch := omega) only [go_sem, seval, encNv_len]
    refine aIf.pos (by omega) ?_
    simp (disch := omega) only [go_sem, seval, e1, encNv_len, encI_len]
    refine aIf.intro (fun h6 => ?_) (fun h6 => ?_) <;> simp (disch := omega) only [go_sem, seval]
    · rw [hdef, if_pos]
      rw [List.all_eq_false]
      exact ⟨x, by rw [hd]; simp, by simp; omega⟩
    · refine roundL_next () ?_ ?_ rfl
      · intro c hc
        rcases List.mem_append.1 hc with hc | hc
        · exact hall c hc
        · rw [List.mem_singleton] at hc; subst hc; omega
      · simp (disch := omega) only [go_sem, seval, List.length_append]
  · rintro _ hall
    rw [if_neg (by rw [List.all_eq_true.2 fun c hc => decide_eq_true (hall c hc)]; simp)] at hdef
    simp only [esC]
    simp (disch := omega) only [go_sem, seval, encNv_len]
    refine AWP.keep [1] (aCode_ok Ty.mixed _ _ _ _ (by kernel_rfl) ?_)
    simp (disch := omega) only [go_sem, seval, encHs_len]
    refine aIf.intro (fun h6 => ?_) (fun h6 => ?_) <;> simp (disch := omega) only [go_sem, seval]
    · rw [hdef, decide_eq_true (show s.heirs.length ≤ 4 by omega)]; rfl
    · refine ACalls.det (c1 _) ?_
      simp (disch := omega) only [go_sem, seval]
      rw [hdef, decide_eq_false (show ¬ s.heirs.length ≤ 4 by omega)]
      simp
end Go.Proofs.Ytaepdkjfaeepmaa
