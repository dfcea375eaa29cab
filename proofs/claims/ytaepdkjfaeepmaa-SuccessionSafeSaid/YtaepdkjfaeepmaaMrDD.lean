/- Texts joined: SucK, SucL. No conditions. -/
import Derived.Test.YtaepdkjfaeepmaaMrDC
import Derived.Test.YtaepdkjfaeepmaaMrAAD
/- The reference's costs. No conditions. -/
set_option linter.unusedSimpArgs false
set_option linter.unusedVariables false
namespace Go.Proofs.Ytaepdkjfaeepmaa
open Go Go.Proofs Go.Abs

/-! ### A table in a list, made better round by round -/
def tabF (tab : List (Int × Nat)) (m : Nat) : Int × Nat := tab.getD m (-1, 0)
def relaxL (tab : List (Int × Nat)) (e : Nat × Nat × Int) : List (Int × Nat) :=
  if 0 ≤ (tabF tab e.2.1).1 then (if lessP ((tabF tab e.2.1).1 + e.2.2, (tabF tab e.2.1).2 + 1) (tabF tab e.1) = true then tab.set e.1 ((tabF tab e.2.1).1 + e.2.2, (tabF tab e.2.1).2 + 1) else tab) else tab
theorem relaxL_len (tab : List (Int × Nat)) (e : Nat × Nat × Int) : (relaxL tab e).length = tab.length := by
  unfold relaxL
  split
  · split
    · simp
    · rfl
  · rfl
theorem tabF_set {tab : List (Int × Nat)} {m : Nat} (h : m < tab.length) (x : Int × Nat) : tabF (tab.set m x) = setA (tabF tab) m x := by
  funext i
  unfold setA tabF
  rw [List.getD_eq_getElem?_getD, List.getElem?_set]
  by_cases e : m = i
  · subst e; rw [if_pos rfl, if_pos h, if_pos rfl]; rfl
  · rw [if_neg e, if_neg (Ne.symm e), List.getD_eq_getElem?_getD]
theorem tabF_relax {tab : List (Int × Nat)} {e : Nat × Nat × Int} (h : e.1 < tab.length) : tabF (relaxL tab e) = relax (tabF tab) e := by
  unfold relaxL relax
  split
  · split
    · rw [tabF_set h]
    · rfl
  · rfl
theorem relaxs_len (E : List (Nat × Nat × Int)) (tab : List (Int × Nat)) : (E.foldl relaxL tab).length = tab.length := by
  induction E generalizing tab with
  | nil => rfl
  | cons e E ih => rw [List.foldl_cons, ih, relaxL_len]
theorem tabF_relaxs {N : Nat} (E : List (Nat × Nat × Int)) (tab : List (Int × Nat)) (h : tab.length = N) (hE : ∀ e ∈ E, e.1 < N) : tabF (E.foldl relaxL tab) = E.foldl relax (tabF tab) := by
  induction E generalizing tab with
  | nil => rfl
  | cons e E ih =>
    rw [List.foldl_cons, List.foldl_cons, ih _ (by rw [relaxL_len, h]) fun e he => hE e (List.mem_cons_of_mem _ he), tabF_relax (by rw [h]; exact hE e (List.mem_cons_self ..))]
def firstL (g : Gr) : List (Int × Nat) := (List.range g.N).map (firstT g)
def tabsL (g : Gr) : Nat → List (Int × Nat)
  | 0 => firstL g
  | n + 1 => (edgesOf g).foldl relaxL (tabsL g n)
def tabG (g : Gr) : List (Int × Nat) := tabsL g g.N
theorem firstL_len (g : Gr) : (firstL g).length = g.N := by simp [firstL]
theorem tabsL_len (g : Gr) : ∀ n, (tabsL g n).length = g.N
  | 0 => firstL_len g
  | n + 1 => by rw [tabsL, relaxs_len, tabsL_len g n]
theorem tabG_len (g : Gr) : (tabG g).length = g.N := tabsL_len g _
theorem firstL_get {g : Gr} {m : Nat} (h : m < g.N) : tabF (firstL g) m = firstT g m := by
  simp [tabF, firstL, List.getD_eq_getElem?_getD, h]
theorem tabsL_bel {g : Gr} (hg : g.Good) : ∀ n, Bel g n (tabF (tabsL g n))
  | 0 => by
    have hb := Bel.first g
    have hout : ∀ m, ¬ m < g.N → tabF (firstL g) m = (-1, 0) := fun m h => by simp [tabF, firstL, List.getD_eq_getElem?_getD, h]
    refine ⟨⟨fun m h => ?_, fun m h => ?_⟩, fun m c k hm hw hk => ?_⟩
    · by_cases e : m < g.N
      · rw [tabsL, firstL_get e] at h ⊢; exact hb.snd.und m h
      · exact hout m e
    · by_cases e : m < g.N
      · rw [tabsL, firstL_get e] at h ⊢; exact hb.snd.sound m h
      · rw [tabsL, hout m e] at h; simp at h
    · rw [tabsL, firstL_get hm]; exact hb.compl m c k hm hw hk
  | n + 1 => by
    rw [tabsL, tabF_relaxs (N := g.N) _ _ (tabsL_len g n) fun e he => (mem_edgesOf.1 he).1]
    exact (tabsL_bel hg n).round hg
/-- What the table says is right. -/
theorem tabG_right {g : Gr} (hg : g.Good) {m : Nat} (hm : m < g.N) : Right g m (tabF (tabG g) m) := by
  have h := tabsL_bel hg g.N
  obtain ⟨x, hx⟩ := Right.exists hg m
  rcases hx with ⟨h1, h2, h3⟩ | ⟨h1, h2⟩
  · have hs := Right.short hg hm (.inl ⟨h1, h2, h3⟩) h1
    obtain ⟨k1, k2⟩ := h.compl m _ _ hm h2 (Nat.le_of_lt hs)
    have k3 := h3 _ _ (h.snd.sound m k1)
    obtain ⟨e1, e2⟩ := k2.anti k3
    refine .inl ⟨k1, h.snd.sound m k1, fun c k hw => ?_⟩
    unfold tabG
    rw [e1, e2]; exact h3 c k hw
  · refine .inr ⟨h.snd.und m ?_, h2⟩
    exact Int.not_le.1 fun hn => h2 _ _ (h.snd.sound m hn)
def tabE (s : Es) : List (Int × Nat) := tabG (grOf s)
end Go.Proofs.Ytaepdkjfaeepmaa

/- The reference's costs: the walk. No conditions. -/
set_option linter.unusedSimpArgs false
set_option linter.unusedVariables false
namespace Go.Proofs.Ytaepdkjfaeepmaa
open Go Go.Proofs Go.Abs

def cP (x : Int × Nat) : List AV := [.int .i64 x.1, .int .i64 x.2]
theorem cP_len (x : Int × Nat) : (cP x).length = 2 := rfl
theorem cP_agg (x : Int × Nat) : ∀ a ∈ cP x, a.isAgg = false := fun a ha => by
  simp only [cP, List.mem_cons, List.not_mem_nil, or_false] at ha
  rcases ha with rfl | rfl <;> rfl
/-- Bounds of what the table says. -/
def BdT (tab : List (Int × Nat)) (T : Nat) : Prop := ∀ m, -1 ≤ (tabF tab m).1 ∧ (tabF tab m).1 ≤ 1048576 * (tabF tab m).2 ∧ (tabF tab m).2 ≤ T
theorem BdT.mono {tab : List (Int × Nat)} {T T' : Nat} (h : BdT tab T) (hT : T ≤ T') : BdT tab T' := fun m => ⟨(h m).1, (h m).2.1, Nat.le_trans (h m).2.2 hT⟩
theorem BdT.relax {tab : List (Int × Nat)} {T : Nat} (h : BdT tab T) {e : Nat × Nat × Int} (he : e.1 < tab.length) (h0 : 0 ≤ e.2.2) (h1 : e.2.2 ≤ 1048576) : BdT (relaxL tab e) (T + 1) := fun m => by
  have hm := h m
  have ht := h e.2.1
  unfold relaxL
  split
  · split
    · rw [tabF_set he]
      unfold setA
      split
      · simp only; omega
      · omega
    · omega
  · omega
theorem firstL_bd (g : Gr) : BdT (firstL g) 0 := fun m => by
  by_cases h : m < g.N
  · rw [firstL_get h]; unfold firstT; split <;> simp
  · simp [tabF, firstL, List.getD_eq_getElem?_getD, h]
theorem firstL_mid {g : Gr} {don r : List (Int × Nat)} {x : Int × Nat} (h : firstL g = don ++ x :: r) : don.length < g.N ∧ x = firstT g don.length := by
  have h1 := congrArg List.length h
  rw [firstL_len] at h1
  simp at h1
  have hd : don.length < g.N := by omega
  refine ⟨hd, ?_⟩
  have h2 := congrArg (fun l => l[don.length]?) h
  simp only [firstL, List.getElem?_map, List.getElem?_range hd, Option.map_some, List.getElem?_append_right (Nat.le_refl _), Nat.sub_self, List.getElem?_cons_zero, Option.some.injEq] at h2
  exact h2.symm
def edgesTo (g : Gr) (m : Nat) : List (Nat × Nat × Int) := (List.range m).flatMap fun m => if g.safe m = true then (g.ways m).map fun w => (m, w) else []
theorem edgesTo_succ (g : Gr) (m : Nat) : edgesTo g (m + 1) = edgesTo g m ++ if g.safe m = true then (g.ways m).map fun w => (m, w) else [] := by
  simp [edgesTo, List.range_succ]
theorem rb_P2 (n : Nat) (l : List (Int × Nat)) : RB n (.sl (l.map encP2) .free) := .sl' fun r hr => by
  obtain ⟨x, _, rfl⟩ := List.mem_map.1 hr
  exact of_eq_true (by rw [encP2]; simp (disch := omega) only [go_sem, seval])
theorem tabF_get {tab : List (Int × Nat)} {i : Nat} (h : i < tab.length) : tab[i]? = some (tabF tab i) := by
  rw [tabF, List.getD_eq_getElem?_getD, List.getElem?_eq_getElem h]; rfl
theorem cP_drop0 {tab : List (Int × Nat)} {i : Nat} (h : i < tab.length) (pad : List AV) : (cR cP tab pad).drop (i * 2) = .int .i64 (tabF tab i).1 :: .int .i64 (tabF tab i).2 :: cR cP (tab.drop (i + 1)) pad := cR_drop cP_len (tabF_get h) pad
theorem cP_drop1 {tab : List (Int × Nat)} {i : Nat} (h : i < tab.length) (pad : List AV) : (cR cP tab pad).drop (i * 2 + 1) = .int .i64 (tabF tab i).2 :: cR cP (tab.drop (i + 1)) pad := by
  rw [← List.drop_drop, cP_drop0 h]; rfl
theorem cP_set {tab : List (Int × Nat)} {i : Nat} (h : i < tab.length) (a : Int) (b : Nat) (pad : List AV) : splice (cR cP tab pad) (i * 2) [.int .i64 a, .int .i64 b] = cR cP (tab.set i (a, b)) pad := by
  have := cR_set (enc := cP) cP_len h (a, b) pad
  exact this
structure RdS where
  r : Nat
  tab : List (Int × Nat)
  j : AH
structure TaS where
  v : AV
  q : Nat
  j : AH
set_option maxHeartbeats 4000000 in
set_option maxRecDepth 100000 in
theorem rcosts_calls (Γ : Nat → Option (List AV)) (s : Es) (h : AH) (hs : EsR s) (hL : s.heirs.length ≤ 10) :
    ACalls Try.prog Γ 31 [encEs s] h fun v h' => h' = h ∧ v = .sl ((tabE s).map encP2) .free := by
  have c0 := fun h => rstates_calls Γ s h hs.L
  have c1 := fun (m : Nat) x (hm : m < 2 ^ s.heirs.length) h => rstep_calls Γ s m x h hs.L (hs.small hm)
  have c2 := fun (k : Nat) (hk : k < 2 ^ s.heirs.length) h => rsafe_calls Γ s k h hs.toEsOK (by omega) (by have := hs.small hk; omega)
  have c3 := fun (k : Nat) (hk : k < 2 ^ s.heirs.length) h => rliving_calls Γ s k h hs.toEsOK (by omega) (by have := hs.small hk; omega)
  have c4 := fun h => rstages_calls Γ s h hs.L
  obtain ⟨g, hg⟩ : ∃ g, g = grOf s := ⟨_, rfl⟩
  have hgood : g.Good := hg ▸ grOf_good hs
  obtain ⟨N, hN⟩ : ∃ N, N = g.N := ⟨_, rfl⟩
  have hN2 : N = 2 ^ s.heirs.length := by rw [hN, hg]; rfl
  have hN1024 : N ≤ 1024 := by rw [hN2]; exact Nat.pow_le_pow_right (n := 2) (by decide) hL
  have hNi : (2 : Int) ^ s.heirs.length = (N : Int) := by rw [hN2, Int.natCast_pow]; rfl
  rw [hNi] at c0
  rw [← hN2] at c1 c2 c3
  refine ACalls.endC ?_
  simp only [encEs, esC, encSg] at c0 c1 c2 c3 c4 ⊢
  refine acalls_codeB (rs := [.tmp 2]) Try.func31 rfl rfl rfl rfl rfl Ty.mixed (by kernel_rfl) ?_
  simp (disch := omega) only [go_sem, seval]
  refine awp_loopL (β := TaS) (firstL g) [1, 3, 4, 1000001] (fun don w => [(1, .ptr (some (h.length, 0))), (3, w.v), (4, .int .i64 don.length), (1000001, .tuple [])]) (fun w => h ++ w.j)
    (fun don _ w => w.j[0]? = some (.row (esC s) 26) ∧ 0 < w.q ∧ ((w.v = .sl [] .full ∧ don = []) ∨ OwnC cP 2 h.length w.q w.j 75 w.v don)) ⟨.sl [] .full, 1, [.row (esC s) 26]⟩ ?_ rfl ⟨rfl, by simp, .inl ⟨rfl, rfl⟩⟩ Ty.mixed (by kernel_rfl) ?_ ?_
  · simp (disch := omega) only [go_sem, seval, List.length_nil, esC]
  · rintro don x r ⟨v, q, j⟩ hd ⟨hj, hq0, ho⟩
    simp only at hj hq0 ho ⊢
    obtain ⟨hdn, hx⟩ := firstL_mid hd
    rw [← hN] at hdn
    have gr : ∀ k, (h ++ (j ++ k))[h.length]? = some (.row (esC s) 26) := fun k => by rw [List.getElem?_append_right (Nat.le_refl _), Nat.sub_self, List.getElem?_append_left (List.getElem?_eq_some_iff.1 hj).1]; exact hj
    have gr0 : (h ++ j)[h.length]? = some (.row (esC s) 26) := by have := gr []; rwa [List.append_nil] at this
    simp only [esC] at gr gr0
    simp (disch := omega) only [go_sem, seval, gr, gr0]
    refine ACalls.det (c0 _) ?_
    simp (disch := omega) only [go_sem, seval]
    refine aIf.pos (by omega) ?_
    simp (disch := omega) only [go_sem, seval, gr, gr0]
    refine ACalls.det (c2 _ hdn _) ?_
    simp (disch := omega) only [go_sem, seval]
    have hxf : x = if safeF s don.length = true ∧ livF s don.length = true then (0, 0) else (-1, 0) := by rw [hx, hg]; rfl
    have app : ∀ (Q : AV → AH → Prop) (ys : List AV) (by_ : Nat) (z : List AV) (k : AH), by_ ≤ 1000 → ys = [.agg (cP x)] →
        (∀ v' q' j', j'[0]? = some (.row (esC s) 26) → 0 < q' → OwnC cP 2 h.length q' j' 75 v' (don ++ [x]) → Q v' (h ++ j')) → aApM (some (2, by_, z, 75)) v (.sl ys .full) (h ++ (j ++ k)) Q := fun Q ys by_ z k hby hys H => by
      have h0j := (List.getElem?_eq_some_iff.1 hj).1
      refine aApM_C (enc := cP) (l := don) (l2 := [x]) (q := q) (j := j ++ k) cP_len (by decide) (ho.imp id fun h => h.more _) hys.symm ?_ rfl rfl (by simp) (by simp; omega) ?_ fun v' q' j' ho' hlen hk hq _ => ?_
      · intro r hr
        rw [List.mem_singleton] at hr; subst hr
        refine ⟨rfl, fun c hc => ?_⟩
        simp only [cP, AV.cells, List.mem_cons, List.not_mem_nil, or_false] at hc
        rcases hc with rfl | rfl <;> rfl
      · have := Nat.mul_le_mul (show don.length + 1 ≤ 1024 by omega) hby
        rw [List.length_singleton]; omega
      · refine H v' q' j' ?_ ?_ ho'
        · rw [hk 0 (by simp; omega) (by omega), List.getElem?_append_left h0j]; exact hj
        · rcases hq with rfl | hq
          · exact hq0
          · simp at hq; omega
    cases hsf : safeF s don.length with
    | false =>
      simp (disch := omega) only [go_sem, seval, gr]
      refine app _ _ _ _ _ (by decide) (by rw [hxf, hsf, if_neg (by simp)]; rfl) fun v' q' j' h1 h2 h3 => ?_
      simp (disch := omega) only [go_sem, seval]
      refine roundL_next (⟨v', q', j'⟩ : TaS) ⟨h1, h2, .inr h3⟩ ?_ rfl
      simp (disch := omega) only [go_sem, seval, List.length_append]
    | true =>
    simp (disch := omega) only [go_sem, seval, gr]
    refine ACalls.det (c3 _ hdn _) ?_
    simp (disch := omega) only [go_sem, seval]
    cases hlf : livF s don.length with
    | false =>
      simp (disch := omega) only [go_sem, seval, gr]
      refine app _ _ _ _ _ (by decide) (by rw [hxf, hsf, hlf, if_neg (by simp)]; rfl) fun v' q' j' h1 h2 h3 => ?_
      simp (disch := omega) only [go_sem, seval]
      refine roundL_next (⟨v', q', j'⟩ : TaS) ⟨h1, h2, .inr h3⟩ ?_ rfl
      simp (disch := omega) only [go_sem, seval, List.length_append]
    | true =>
      simp (disch := omega) only [go_sem, seval, gr]
      refine app _ _ _ _ _ (by decide) (by rw [hxf, hsf, hlf, if_pos (by simp)]; rfl) fun v' q' j' h1 h2 h3 => ?_
      simp (disch := omega) only [go_sem, seval]
      refine roundL_next (⟨v', q', j'⟩ : TaS) ⟨h1, h2, .inr h3⟩ ?_ rfl
      simp (disch := omega) only [go_sem, seval, List.length_append]
  · rintro ⟨v, q, j⟩ ⟨hj, hq0, ho⟩
    simp only at hj hq0 ho ⊢
    have hfl : (firstL g).length = N := by rw [firstL_len, hN]
    have hNpos : 0 < N := by rw [hN2]; exact Nat.pow_pos (by decide)
    have gr0 : (h ++ j)[h.length]? = some (.row (esC s) 26) := by rw [List.getElem?_append_right (Nat.le_refl _), Nat.sub_self]; exact hj
    simp only [esC] at gr0
    rw [hfl]
    simp (disch := omega) only [go_sem, seval, gr0]
    refine ACalls.det (c0 _) ?_
    simp (disch := omega) only [go_sem, seval]
    refine AWP.keep [1, 3, 1000001] (aCode_ok Ty.mixed _ _ _ _ (by kernel_rfl) ?_)
    simp (disch := omega) only [go_sem, seval, gr0]
    refine ACalls.det (c4 _) ?_
    simp (disch := omega) only [go_sem, seval]
    have ho : OwnC cP 2 h.length q j 75 v (firstL g) := by
      rcases ho with ⟨_, e⟩ | ho
      · rw [e] at hfl; simp at hfl; omega
      · exact ho
    obtain ⟨c, pad, rfl, hjq, hcp, hpad⟩ := ho
    rw [hfl] at hcp ⊢
    refine awp_loopS (α := RdS) [1, 3, 6, 7, 1000001] (fun w => [(1, .ptr (some (h.length, 0))), (3, .ms (h.length + q) 0 N c 2), (6, .sl ((stagesL s).map encSg) .free), (7, .int .i64 w.r), (1000001, .tuple [])]) (fun w => h ++ w.j)
      (fun w => w.j[0]? = some (.row (esC s) 26) ∧ w.j[q]? = some (.row (cR cP w.tab pad) 75) ∧ w.tab = tabsL g w.r ∧ BdT w.tab (w.r * 40960) ∧ w.r ≤ N) (fun w => N - w.r) ⟨0, firstL g, j⟩ ?_ rfl ⟨hj, hjq, rfl, (firstL_bd g).mono (Nat.zero_le _), Nat.zero_le _⟩ Ty.mixed (by kernel_rfl) ?_
    · simp (disch := omega) only [go_sem, seval, encSg]
    rintro ⟨r, tab, j⟩ ⟨hj, hjq, htab, hbd, hr⟩
    simp only at hj hjq htab hbd hr ⊢
    have gr0 : (h ++ j)[h.length]? = some (.row (esC s) 26) := by rw [List.getElem?_append_right (Nat.le_refl _), Nat.sub_self]; exact hj
    simp only [esC] at gr0
    simp (disch := omega) only [go_sem, seval, gr0]
    refine ACalls.det (c0 _) ?_
    simp (disch := omega) only [go_sem, seval]
    refine aIf.intro (fun h1 => ?_) (fun h1 => ?_) <;> simp (disch := omega) only [go_sem, seval]
    rotate_left
    · have hrN : r = N := by omega
      refine AWP.keep [3] (aCode_ok Ty.mixed _ _ _ _ (by kernel_rfl) ?_)
      simp (disch := omega) only [go_sem, seval]
      subst hrN
      have he : tab = tabE s := by rw [htab, hN, tabE, ← hg]; rfl
      have hlen : tab.length = r := by rw [htab, tabsL_len, ← hN]
      have hfz : fzV (h.length + q) (cR cP tab pad) (.ms (h.length + q) 0 r c 2) = .sl (tab.map encP2) .free := by
        have := fz_C (i := h.length + q) (c := c) cP_len (by decide) (by decide) (by rw [hlen]; exact hcp) hpad cP_agg
        rw [hlen] at this
        exact this
      refine .inr ⟨q, _, _, hjq, ?_, ?_⟩
      · rw [hfz, loose, looseL_maps _ (fun _ => rfl)]
        exact rb_P2 _ _
      · rw [hfz, loose, looseL_maps _ (fun _ => rfl), he]
    refine awp_loopS (α := RdS) [1, 3, 6, 7, 8, 1000001] (fun w => [(1, .ptr (some (h.length, 0))), (3, .ms (h.length + q) 0 N c 2), (6, .sl ((stagesL s).map encSg) .free), (7, .int .i64 r), (8, .int .i64 w.r), (1000001, .tuple [])]) (fun w => h ++ w.j)
      (fun w => w.j[0]? = some (.row (esC s) 26) ∧ w.j[q]? = some (.row (cR cP w.tab pad) 75) ∧ w.tab = (edgesTo g w.r).foldl relaxL tab ∧ BdT w.tab (r * 40960 + w.r * 40) ∧ w.r ≤ N) (fun w => N - w.r) ⟨0, tab, j⟩ ?_ rfl ⟨hj, hjq, rfl, hbd.mono (by simp), Nat.zero_le _⟩ Ty.mixed (by kernel_rfl) ?_
    · simp (disch := omega) only [go_sem, seval]
    have htl : tab.length = N := by rw [htab, tabsL_len, hN]
    have hedge := htab
    clear hj hjq gr0 hbd
    rintro ⟨m, tb, j⟩ ⟨hj, hjq, htb, hbd, hm⟩
    simp only at hj hjq htb hbd hm ⊢
    have gr0 : (h ++ j)[h.length]? = some (.row (esC s) 26) := by rw [List.getElem?_append_right (Nat.le_refl _), Nat.sub_self]; exact hj
    simp only [esC] at gr0
    simp (disch := omega) only [go_sem, seval, gr0]
    refine ACalls.det (c0 _) ?_
    simp (disch := omega) only [go_sem, seval]
    refine aIf.intro (fun h2 => ?_) (fun h2 => ?_) <;> simp (disch := omega) only [go_sem, seval]
    rotate_left
    · have hmN : m = N := by omega
      refine AWP.keep [1, 3, 6, 7, 1000001] (aCode_ok Ty.mixed _ _ _ _ (by kernel_rfl) ?_)
      simp (disch := omega) only [go_sem, seval]
      refine roundS_next (⟨r + 1, tb, j⟩ : RdS) (by simp only; omega) ⟨hj, hjq, ?_, hbd.mono (by simp only; omega), by simp only; omega⟩ ?_ rfl
      · show tb = (edgesOf g).foldl relaxL (tabsL g r)
        rw [← htab, htb, hmN, hN]; rfl
      · simp (disch := omega) only [go_sem, seval]
    have hmN : m < N := by omega
    have htbl : tb.length = N := by rw [htb, relaxs_len, htl]
    have hl38 : (stagesL s).length ≤ 20 := by simp [stagesL]; omega
    have hes := edgesTo_succ g m
    have hsg : g.safe m = safeF s m := by rw [hg]; rfl
    rw [hsg] at hes
    cases hsf : safeF s m with
    | false =>
      refine awp_loopS (α := Unit) [1, 3, 6, 7, 8, 9, 1000001] (fun _ => [(1, .ptr (some (h.length, 0))), (3, .ms (h.length + q) 0 N c 2), (6, .sl ((stagesL s).map encSg) .free), (7, .int .i64 r), (8, .int .i64 m), (9, .int .i64 0), (1000001, .tuple [])]) (fun _ => h ++ j) (fun _ => True) (fun _ => 0) () ?_ rfl trivial Ty.mixed (by kernel_rfl) ?_
      · simp (disch := omega) only [go_sem, seval]
      rintro _ _
      simp (disch := omega) only [go_sem, seval, List.length_map]
      have hend : (⟨m + 1, tb, j⟩ : RdS).tab = (edgesTo g (m + 1)).foldl relaxL tab := by rw [hes, hsf]; simpa using htb
      refine aIf.intro (fun h3 => ?_) (fun h3 => ?_) <;> simp (disch := omega) only [go_sem, seval, gr0]
      · refine ACalls.det (c2 _ hmN _) ?_
        simp (disch := omega) only [go_sem, seval]
        rw [hsf]
        simp (disch := omega) only [go_sem, seval]
        refine AWP.keep [1, 3, 6, 7, 8, 1000001] (aCode_ok Ty.mixed _ _ _ _ (by kernel_rfl) ?_)
        simp (disch := omega) only [go_sem, seval]
        refine roundS_next (⟨m + 1, tb, j⟩ : RdS) (by simp only; omega) ⟨hj, hjq, hend, hbd.mono (by simp only; omega), by simp only; omega⟩ ?_ rfl
        simp (disch := omega) only [go_sem, seval]
      · refine AWP.keep [1, 3, 6, 7, 8, 1000001] (aCode_ok Ty.mixed _ _ _ _ (by kernel_rfl) ?_)
        simp (disch := omega) only [go_sem, seval]
        refine roundS_next (⟨m + 1, tb, j⟩ : RdS) (by simp only; omega) ⟨hj, hjq, hend, hbd.mono (by simp only; omega), by simp only; omega⟩ ?_ rfl
        simp (disch := omega) only [go_sem, seval]
    | true =>
    rw [hsf, if_pos rfl] at hes
    refine awp_loopL (β := RdS) (stagesL s) [1, 3, 6, 7, 8, 9, 1000001] (fun don _ => [(1, .ptr (some (h.length, 0))), (3, .ms (h.length + q) 0 N c 2), (6, .sl ((stagesL s).map encSg) .free), (7, .int .i64 r), (8, .int .i64 m), (9, .int .i64 don.length), (1000001, .tuple [])]) (fun w => h ++ w.j)
      (fun don _ w => w.j[0]? = some (.row (esC s) 26) ∧ w.j[q]? = some (.row (cR cP w.tab pad) 75) ∧ w.tab = ((don.filterMap fun x => if (stepF s m x).1 < 0 then none else some ((stepF s m x).1.toNat, (stepF s m x).2)).map fun w => (m, w)).foldl relaxL tb ∧ BdT w.tab (r * 40960 + m * 40 + don.length)) ⟨0, tb, j⟩ ?_ rfl ⟨hj, hjq, rfl, hbd⟩ Ty.mixed (by kernel_rfl) ?_ ?_
    · simp (disch := omega) only [go_sem, seval, List.length_nil]
    · clear hj hjq gr0 hbd
      rintro don x rr ⟨_, tc, j⟩ hd ⟨hj, hjq, htc, hbd⟩
      simp only at hj hjq htc hbd ⊢
      have hlen : (stagesL s).length = don.length + 1 + rr.length := by rw [hd]; simp; omega
      have gr0 : ∀ k, (h ++ (j ++ k))[h.length]? = some (.row (esC s) 26) := fun k => by rw [List.getElem?_append_right (Nat.le_refl _), Nat.sub_self, List.getElem?_append_left (List.getElem?_eq_some_iff.1 hj).1]; exact hj
      have gr1 : (h ++ j)[h.length]? = some (.row (esC s) 26) := by have := gr0 []; rwa [List.append_nil] at this
      have e1 : ((stagesL s).map encSg)[don.length]? = some (.agg [.int .i64 x.kind, .int .i64 x.person]) := by rw [hd]; simp [encSg]
      have hfm : ∀ don : List Sg, ((don ++ [x]).filterMap fun x => if (stepF s m x).1 < 0 then none else some ((stepF s m x).1.toNat, (stepF s m x).2)) = (don.filterMap fun x => if (stepF s m x).1 < 0 then none else some ((stepF s m x).1.toNat, (stepF s m x).2)) ++ (if (stepF s m x).1 < 0 then [] else [((stepF s m x).1.toNat, (stepF s m x).2)]) := fun don => by
        rw [List.filterMap_append]
        congr 1
        by_cases e : (stepF s m x).1 < 0
        · rw [if_pos e]; simp [e]
        · rw [if_neg e]; simp [e]
      have hfm := hfm don
      have c1 := c1 m x hmN
      have hlt := step_lt (s := s) (x := x) (m := m) (by omega)
      have hst := step_cost hs m x
      have htcl : tc.length = N := by rw [htc, relaxs_len, htbl]
      simp only [esC] at gr0 gr1
      simp (disch := omega) only [go_sem, seval, List.length_map]
      refine aIf.pos (by omega) ?_
      simp (disch := omega) only [go_sem, seval, gr1]
      refine ACalls.det (c2 _ hmN _) ?_
      simp (disch := omega) only [go_sem, seval]
      rw [hsf]
      simp (disch := omega) only [go_sem, seval, gr1, e1, List.length_map]
      refine aCallF.intro (fun _ => c1 _) ?_
      simp (disch := omega) only [go_sem, seval]
      obtain ⟨⟨z1, z2⟩, hz⟩ : ∃ z, stepF s m x = z := ⟨_, rfl⟩
      rw [hz] at hfm hlt hst ⊢
      simp only at hfm hlt hst ⊢
      refine aIf.intro (fun h4 => ?_) (fun h4 => ?_) <;> simp (disch := omega) only [go_sem, seval]
      · rw [if_pos h4, List.append_nil] at hfm
        refine roundL_next (⟨0, tc, j⟩ : RdS) ⟨hj, hjq, ?_, hbd.mono (by simp)⟩ ?_ rfl
        · rw [hfm]; exact htc
        · simp (disch := omega) only [go_sem, seval, List.length_append]
      rw [if_neg h4] at hfm
      obtain ⟨k, rfl⟩ := Int.eq_ofNat_of_zero_le (show 0 ≤ z1 by omega)
      have hlt : k < N := by have := hlt h4; rw [Int.toNat_natCast, ← hN2] at this; exact this
      have d0 := cP_drop0 (tab := tc) (i := k) (by omega) pad
      have d1 := cP_drop1 (tab := tc) (i := k) (by omega) pad
      have d2 := cP_drop0 (tab := tc) (i := m) (by omega) pad
      have hb := hbd k
      have hbm := hbd m
      have hrel : relaxL tc (m, k, z2) = if 0 ≤ (tabF tc k).1 then (if lessP ((tabF tc k).1 + z2, (tabF tc k).2 + 1) (tabF tc m) = true then tc.set m ((tabF tc k).1 + z2, (tabF tc k).2 + 1) else tc) else tc := rfl
      have hbr := hbd.relax (e := (m, k, z2)) (by simp only; omega) hst.1 hst.2
      have htr : ((don ++ [x]).filterMap fun x => if (stepF s m x).1 < 0 then none else some ((stepF s m x).1.toNat, (stepF s m x).2)).map (fun w => (m, w)) |>.foldl relaxL tb |> (relaxL tc (m, k, z2) = ·) := by
        simp only
        rw [hfm, List.map_append, List.foldl_append, ← htc]; rfl
      simp only at htr
      simp (disch := omega) only [go_sem, seval, hjq, Int.toNat_natCast, Nat.zero_add, Nat.add_zero, d0]
      refine ⟨by omega, ?_⟩
      refine aIf.intro (fun h5 => ?_) (fun h5 => ?_) <;> simp (disch := omega) only [go_sem, seval]
      · rw [if_neg (by omega)] at hrel
        rw [hrel] at htr
        refine roundL_next (⟨0, tc, j⟩ : RdS) ⟨hj, hjq, htr, hbd.mono (by simp)⟩ ?_ rfl
        simp (disch := omega) only [go_sem, seval, List.length_append]
      rw [if_pos (by omega)] at hrel
      simp (disch := omega) only [go_sem, seval, hjq, Int.toNat_natCast, Nat.zero_add, Nat.add_zero, d0, d1]
      refine ⟨by omega, by omega, by omega, ?_⟩
      have hjq1 : ∀ k, (j ++ k)[q]? = some (.row (cR cP tc pad) 75) := fun k => by rw [List.getElem?_append_left (List.getElem?_eq_some_iff.1 hjq).1]; exact hjq
      have c5 := fun h => rless52_calls Γ ((tabF tc k).1 + z2, (tabF tc k).2 + 1) (tabF tc m) h
      simp only [encP2, Int.natCast_add, Int.cast_ofNat_Int] at c5
      simp (disch := omega) only [go_sem, seval, hjq1, d2, List.take_succ_cons, List.take_zero, List.length_cons]
      refine aCallF.intro (fun _ => c5 _) ?_
      simp (disch := omega) only [go_sem, seval]
      have hj1 : ∀ k, (j ++ k)[0]? = some (.row (esC s) 26) := fun k => by rw [List.getElem?_append_left (List.getElem?_eq_some_iff.1 hj).1]; exact hj
      cases hl : lessP ((tabF tc k).1 + z2, (tabF tc k).2 + 1) (tabF tc m) with
      | false =>
        rw [hl, if_neg (by simp)] at hrel
        rw [hrel] at htr
        simp (disch := omega) only [go_sem, seval]
        refine roundL_next (⟨0, tc, j ++ [.row [.int .i64 ((tabF tc k).1 + z2), .int .i64 ((tabF tc k).2 + 1)] 75]⟩ : RdS) ⟨hj1 _, hjq1 _, htr, hbd.mono (by simp)⟩ ?_ rfl
        simp (disch := omega) only [go_sem, seval, List.length_append]
      | true =>
        rw [hl, if_pos rfl] at hrel
        rw [hrel] at htr hbr
        simp (disch := omega) only [go_sem, seval, hjq1]
        have hset := cR_set (enc := cP) cP_len (i := m) (l := tc) (by omega) ((tabF tc k).1 + z2, (tabF tc k).2 + 1) pad
        simp only [cP, Int.natCast_add, Int.cast_ofNat_Int] at hset
        refine ⟨by omega, by rw [cR_len cP_len, htcl]; omega, ?_⟩
        have hql := (List.getElem?_eq_some_iff.1 (hjq1 [AObj.row [.int .i64 ((tabF tc k).1 + z2), .int .i64 ((tabF tc k).2 + 1)] 75])).1
        refine roundL_next (⟨0, _, (j ++ [AObj.row [.int .i64 ((tabF tc k).1 + z2), .int .i64 ((tabF tc k).2 + 1)] 75]).set q (.row (cR cP (tc.set m ((tabF tc k).1 + z2, (tabF tc k).2 + 1)) pad) 75)⟩ : RdS) ⟨?_, ?_, htr, hbr.mono (by simp; omega)⟩ ?_ ?_
        · simp only
          rw [List.getElem?_set_ne (by omega)]; exact hj1 _
        · simp only
          rw [List.getElem?_set_self hql]
        · simp (disch := omega) only [go_sem, seval, List.length_append]
        · simp only [Nat.zero_add]
          rw [← hset]
    · clear hj hjq gr0 hbd
      rintro ⟨_, tc, j⟩ ⟨hj, hjq, htc, hbd⟩
      simp only at hj hjq htc hbd ⊢
      simp (disch := omega) only [go_sem, seval, List.length_map]
      refine AWP.keep [1, 3, 6, 7, 8, 1000001] (aCode_ok Ty.mixed _ _ _ _ (by kernel_rfl) ?_)
      simp (disch := omega) only [go_sem, seval]
      refine roundS_next (⟨m + 1, tc, j⟩ : RdS) (by simp only; omega) ⟨hj, hjq, ?_, hbd.mono (by simp only; omega), by simp only; omega⟩ ?_ rfl
      · show tc = (edgesTo g (m + 1)).foldl relaxL tab
        rw [hes, List.foldl_append, ← htb, htc, hg]; rfl
      · simp (disch := omega) only [go_sem, seval]
end Go.Proofs.Ytaepdkjfaeepmaa
