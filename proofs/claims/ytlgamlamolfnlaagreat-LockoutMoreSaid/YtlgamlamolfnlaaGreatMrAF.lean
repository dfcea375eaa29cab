/- Texts joined: LokK, LokL. No conditions. -/
import Derived.Test.YtlgamlamolfnlaaGreatMrAE
/- The reference's lists (lockout): people, subsets, others, equal lists. No conditions. -/
set_option linter.unusedSimpArgs false
set_option linter.unusedVariables false
namespace Go.Proofs.YtlgamlamolfnlaaGreat
open Go Go.Proofs Go.Abs

set_option maxRecDepth 100000 in
theorem put26_calls (Γ : Nat → Option (List AV)) (l : List Int) (n : Int) (h : AH) (hl : l.length ≤ 1000000) :
    ACalls Tryz.prog Γ 64 [.sl (encI l) .free, .int .i64 n] h fun v h' => h' = h ∧ v = .sl (encI (putF n l)) .free := by
  refine ACalls.dropL ?_
  refine acalls_code (rs := [.tmp 4]) Tryz.func64 rfl rfl rfl rfl Ty.mixed (by kernel_rfl) ?_
  simp (disch := omega) only [go_sem, seval]
  refine awp_loopS (α := List Int × List Int) [0, 1, 5] (fun s => [(0, .sl (encI l) .free), (1, .int .i64 n), (5, .int .i64 s.1.length)]) (fun _ => h) (fun s => l = s.1 ++ s.2 ∧ ∀ x ∈ s.1, x < n) (fun s => s.2.length) ([], l) ?_ rfl ⟨rfl, by simp⟩ Ty.mixed (by kernel_rfl) ?_
  · simp (disch := omega) only [go_sem, seval]
  rintro ⟨a, b⟩ ⟨rfl, ha⟩
  simp only at ha ⊢
  cases b with
  | nil =>
    have hl' : a.length ≤ 1000000 := by simpa using hl
    simp (disch := omega) only [go_sem, seval, encI_len, List.append_nil]
    refine AWP.keep [0, 1, 5] (aCode_ok Ty.mixed _ _ _ _ (by kernel_rfl) ?_)
    simp (disch := omega) only [go_sem, seval, encI_len]
    refine ⟨rowsOK_I _, by omega, ?_⟩
    rw [show (encI (a)).take a.length = encI a from by simp [encI_take]]
    refine aAp_full (rowsOK_I []) (rowsOK_I _) (by simp [encI_len]; omega) (by simp [encI_len]; omega) ?_
    simp (disch := omega) only [go_sem, seval, List.nil_append, encI_len]
    refine aAp_arena (by simp (disch := omega) only [go_sem, seval, List.length_nil, Nat.zero_add, encI_len]) (rowsOK_I _) (rowsOK_I [n]) (by simp [encI_len]; omega) (by simp [encI_len]; omega) ?_
    rw [encI_snoc]
    simp (disch := omega) only [go_sem, seval, encI_len]
    refine ⟨rowsOK_I _, by simp, ?_⟩
    rw [show (encI (a)).drop a.length = encI ([] : List Int) from by simp [encI_drop]]
    refine aAp_arena (by simp (disch := omega) only [go_sem, seval, List.length_append, List.length_cons, List.length_nil, encI_len]) (rowsOK_I _) (rowsOK_I _) (by simp [encI_len]; omega) (by simp [encI_len]; omega) ?_
    rw [encI_app2]
    simp (disch := omega) only [go_sem, seval, encI_len]
    rw [show putF n a = putF n (a ++ []) from by simp, putF_at n a _ ha]
    simp [putF]
  | cons y b =>
    have hl' : a.length + 1 + b.length ≤ 1000000 := by simp at hl; omega
    have e1 : (encI (a ++ y :: b))[a.length]? = some (.int .i64 y) := by simp [encI]
    simp (disch := omega) only [go_sem, seval, encI_len, List.length_append, List.length_cons]
    refine aIf.pos (by omega) ?_
    simp (disch := omega) only [go_sem, seval, encI_len, List.length_append, List.length_cons, e1]
    refine aIf.intro (fun h1 => ?_) (fun h1 => ?_) <;> simp (disch := omega) only [go_sem, seval]
    · refine roundS_next (a ++ [y], b) (by simp) ⟨by simp, ?_⟩ ?_ rfl
      · intro x hx
        rcases List.mem_append.1 hx with hx | hx
        · exact ha x hx
        · simp at hx; omega
      · simp (disch := omega) only [go_sem, seval, List.length_append]
    · refine AWP.keep [0, 1, 5] (aCode_ok Ty.mixed _ _ _ _ (by kernel_rfl) ?_)
      simp (disch := omega) only [go_sem, seval, encI_len, List.length_append, List.length_cons]
      refine aIf.pos (by omega) ?_
      simp (disch := omega) only [go_sem, seval, encI_len, List.length_append, List.length_cons, e1]
      refine aIf.intro (fun h2 => ?_) (fun h2 => ?_) <;> simp (disch := omega) only [go_sem, seval]
      · rw [putF_at n a _ ha]; simp [putF, h1, h2]
      · refine ⟨rowsOK_I _, by simp [encI_len]; omega, ?_⟩
        rw [show (encI (a ++ y :: b)).take a.length = encI a from by simp [encI_take]]
        refine aAp_full (rowsOK_I []) (rowsOK_I _) (by simp [encI_len]; omega) (by simp [encI_len]; omega) ?_
        simp (disch := omega) only [go_sem, seval, List.nil_append, encI_len]
        refine aAp_arena (by simp (disch := omega) only [go_sem, seval, List.length_nil, Nat.zero_add, encI_len]) (rowsOK_I _) (rowsOK_I [n]) (by simp [encI_len]; omega) (by simp [encI_len]; omega) ?_
        rw [encI_snoc]
        simp (disch := omega) only [go_sem, seval, encI_len]
        refine ⟨rowsOK_I _, by simp; omega, ?_⟩
        rw [show (encI (a ++ y :: b)).drop a.length = encI (y :: b) from by simp [encI_drop]]
        refine aAp_arena (by simp (disch := omega) only [go_sem, seval, List.length_append, List.length_cons, List.length_nil, encI_len]) (rowsOK_I _) (rowsOK_I _) (by simp [encI_len]; omega) (by simp [encI_len]; omega) ?_
        rw [encI_app2]
        simp (disch := omega) only [go_sem, seval, encI_len]
        rw [putF_at n a _ ha]
        simp [putF, h1, h2]

set_option maxRecDepth 100000 in
theorem add26_calls_k (Γ : Nat → Option (List AV)) : ∀ (k : Nat) (g : Gt) (out : List Int) (h : AH), SizeOf.sizeOf g < k → Sh g → (out.length : Int) + allLeaves g ≤ 1000000 →
    ACalls Tryz.prog Γ 46 [.sl (encI out) .free, encG g] h fun v h' => h' = h ∧ v = .sl (encI (gathF out g)) .free
  | 0, _, _, _, hk, _, _ => absurd hk (Nat.not_lt_zero _)
  | k + 1, .mk p n l, out, h, hsz, hs, hb => by
    refine ACalls.drop ?_
    have hp := allLeaves_pos (.mk p n l)
    refine acalls_code (rs := [.tmp 4]) Tryz.func46 rfl rfl rfl rfl Ty.mixed (by kernel_rfl) ?_
    simp only [encG_mk]
    simp (disch := omega) only [go_sem, seval]
    refine aIf.intro (fun h1 => ?_) (fun h1 => ?_) <;> simp (disch := omega) only [go_sem, seval]
    · refine ACalls.det (put26_calls Γ out p _ (by omega)) ?_
      simp (disch := omega) only [go_sem, seval]
      simp [gathF, h1]
    have hl1 := hs.len
    have hl2 := hs.mem
    refine awp_loopL (β := Unit) l [0, 3, 5] (fun don _ => [(0, .sl (encI (gathL out don)) .free), (3, .ptr (some (h.length, 0))), (5, .int .i64 don.length)])
      (fun _ => h ++ [AObj.row [AV.int IntKind.i64 p, AV.int IntKind.i64 n, AV.sl (l.map encG) Own.free] 24]) (fun _ _ _ => True) () ?_ rfl trivial Ty.mixed (by kernel_rfl) ?_ ?_
    · simp (disch := omega) only [go_sem, seval]
      simp [gathL]
    · rintro don x r _ rfl _
      have hl3 := len_mid hl1
      simp (disch := omega) only [go_sem, seval, List.map_append, List.map_cons, List.length_append]
      refine aIf.pos (by omega) ?_
      simp (disch := omega) only [go_sem, seval]
      have e1 : allLeaves (.mk p n (don ++ x :: r)) = allLeavesL don + (allLeaves x + allLeavesL r) := by
        rw [allLeaves]
        split
        · rename_i he; simp at he
        · have : ∀ a b : List Gt, allLeavesL (a ++ b) = allLeavesL a + allLeavesL b := fun a b => by
            induction a with
            | nil => simp [allLeavesL]
            | cons y a ih => simp only [List.cons_append, allLeavesL, ih]; omega
          rw [this, allLeavesL]
      have e2 := gathL_len don out
      have e3 := allLeavesL_pos r
      refine ACalls.det (add26_calls_k Γ k x _ _ (mem_sz (by simp) hsz) (hl2 x (by simp)) (by omega)) ?_
      simp (disch := omega) only [go_sem, seval]
      refine roundL_next () trivial ?_ (by simp)
      simp (disch := omega) only [go_sem, seval, List.length_append]
      rw [gathL_app]; simp [gathL]
    · intro _ _
      simp (disch := omega) only [go_sem, seval, List.length_map]
      refine AWP.keep [0] (aCode_ok Ty.mixed _ _ _ _ (by kernel_rfl) ?_)
      simp (disch := omega) only [go_sem, seval]
      simp [gathF, h1]
set_option maxRecDepth 100000 in
theorem ppl26_calls (Γ : Nat → Option (List AV)) (g : Gt) (h : AH) (hs : Sh g) (hb : allLeaves g ≤ 1000) :
    ACalls Tryz.prog Γ 19 [encG g] h fun v h' => h' = h ∧ v = .sl (encI (pplF g)) .free := by
  refine ACalls.drop ?_
  refine acalls_code (rs := [.tmp 2]) Tryz.func19 rfl rfl rfl rfl Ty.mixed (by kernel_rfl) ?_
  simp (disch := omega) only [go_sem, seval]
  refine ACalls.det (ACalls.ofLoose (add26_calls_k Γ _ g [] _ (Nat.lt_succ_self _) hs (by simp; omega)) (by simp (disch := omega) only [go_sem, seval, encI, List.map_nil])) ?_
  simp (disch := omega) only [go_sem, seval]
  rfl
set_option maxRecDepth 100000 in
theorem subsets26_calls (Γ : Nat → Option (List AV)) : ∀ (k : Nat) (l : List Int) (h : AH), l.length ≤ 12 → k ≤ 12 →
    ACalls Tryz.prog Γ 35 [.sl (encI l) .free, .int .i64 k] h fun v h' => h' = h ∧ v = .sl (encII (chooseF l k)) .free
  | 0, l, h, hl, _ => by
    refine ACalls.dropL ?_
    refine acalls_code (rs := [.tmp 4]) Tryz.func35 rfl rfl rfl rfl Ty.mixed (by kernel_rfl) ?_
    simp (disch := omega) only [go_sem, seval]
    have : chooseF l 0 = [[]] := by cases l <;> rfl
    rw [this]
    refine ⟨of_eq_true (rb_II _ [[]]), rfl⟩
  | k + 1, l, h, hl, hk => by
    refine ACalls.dropL ?_
    refine acalls_code (rs := [.tmp 4]) Tryz.func35 rfl rfl rfl rfl Ty.mixed (by kernel_rfl) ?_
    simp (disch := omega) only [go_sem, seval]
    refine aIf.neg (by omega) ?_
    simp (disch := omega) only [go_sem, seval]
    refine awp_loopS (α := ChS) [0, 1, 5, 6] (fun s => [(0, .sl (encI l) .free), (1, .int .i64 (k + 1 : Nat)), (5, .sl (encII s.out) s.own), (6, .int .i64 s.don.length)])
      (fun s => h ++ s.j) (fun s => l = s.don ++ s.rest ∧ OwnAt h s.j s.out.length s.own ∧ s.out ++ chooseF s.rest (k + 1) = chooseF l (k + 1)) (fun s => s.rest.length) ⟨[], l, [], .full, []⟩ ?_ (by simp) ⟨rfl, trivial, rfl⟩ Ty.mixed (by kernel_rfl) ?_
    · simp (disch := omega) only [go_sem, seval]
      simp [encII]
    rintro ⟨don, rest, out, own, j⟩ ⟨rfl, ho, hc⟩
    simp only at ho hc ⊢
    have hl' : don.length + rest.length ≤ 12 := by simpa using hl
    simp (disch := omega) only [go_sem, seval, encI_len, List.length_append]
    refine aIf.intro (fun h1 => ?_) (fun h1 => ?_) <;> simp (disch := omega) only [go_sem, seval]
    · cases rest with
      | nil => simp at h1; omega
      | cons x r =>
        simp only [List.length_cons] at hl' h1
        simp (disch := omega) only [go_sem, seval, encI_len, List.length_append, List.length_cons]
        refine ⟨rowsOK_I _, by omega, by omega, ?_⟩
        rw [show (encI (don ++ x :: r)).drop ((don.length : Int) + 1).toNat = encI r from by rw [show ((don.length : Int) + 1).toNat = don.length + 1 from by omega, encI_drop]; simp]
        refine ACalls.det (subsets26_calls Γ k r _ (by omega) (by omega)) ?_
        simp (disch := omega) only [go_sem, seval, encI_len, List.length_append, List.length_cons]
        have hp := choose_pow r k
        have hp2 : 2 ^ r.length ≤ 2 ^ 12 := Nat.pow_le_pow_right (by omega) (by omega)
        have hpo : (out ++ chooseF (x :: r) (k + 1)).length ≤ 2 ^ 12 := by
          rw [hc]
          refine Nat.le_trans (choose_pow _ _) (Nat.pow_le_pow_right (by omega) (by simp; omega))
        have hpx : (out ++ (chooseF r k).map (x :: ·)).length ≤ 4096 := by
          simp only [chooseF, List.length_append, List.length_map] at hpo ⊢; omega
        refine awp_loopL (β := ChT) (chooseF r k) [0, 1, 5, 6, 7, 8] (fun d s => [(0, .sl (encI (don ++ x :: r)) .free), (1, .int .i64 (k + 1 : Nat)), (5, .sl (encII s.out) s.own), (6, .int .i64 don.length), (7, .sl (encII (chooseF r k)) .free), (8, .int .i64 d.length)])
          (fun s => h ++ s.j) (fun d _ s => OwnAt h s.j s.out.length s.own ∧ s.out = out ++ d.map (x :: ·)) ⟨out, own, j⟩ ?_ rfl ⟨ho, by simp⟩ Ty.mixed (by kernel_rfl) ?_ ?_
        · simp (disch := omega) only [go_sem, seval]
        · rintro d t rr ⟨o2, own2, j2⟩ hd ⟨ho2, rfl⟩
          simp only at ho2 ⊢
          have ht : t.length = k := choose_mem r k t (by rw [hd]; simp)
          have hdl : d.length + 1 + rr.length ≤ 4096 := by
            have := congrArg List.length hd
            simp at this; omega
          have hol : out.length + d.length + 1 ≤ 4096 := by
            rw [hd] at hpx; simp at hpx; omega
          simp (disch := omega) only [go_sem, seval, encII_len]
          rw [hd]
          simp (disch := omega) only [go_sem, seval, List.length_append, List.length_cons]
          refine aIf.pos (by omega) ?_
          have e1 : (encI (don ++ x :: r))[don.length]? = some (.int .i64 x) := by simp [encI]
          have e2 : (encII (d ++ t :: rr))[d.length]? = some (.sl (encI t) .free) := by simp [encII]
          simp (disch := omega) only [go_sem, seval, encII_len, encI_len, e1, e2, List.length_append, List.length_cons]
          refine aAp_full (rowsOK_I [x]) (rowsOK_I t) (by simp [encI_len]; omega) (by simp [encI_len]; omega) ?_
          simp (disch := omega) only [go_sem, seval]
          refine aAp_sl (by rw [encII_len]; exact ho2.app _) (rowsOK_II _) (RowsOK.cons rfl (fun c hc => by simp [AV.cells] at hc; subst hc; rfl) (RowsOK.nil 1)) (by simp [encII_len]; omega) (by simp [encII_len]; omega) fun j3 own3 ho3 hg => ?_
          simp (disch := omega) only [go_sem, seval]
          refine roundL_loose ⟨out ++ (d ++ [t]).map (x :: ·), own3, j3⟩ ⟨?_, rfl⟩ ?_ rfl
          · simpa [encII_len, Nat.add_assoc] using ho3
          · simp (disch := omega) only [go_sem, seval, List.length_append, looseL_snoc, List.map_append, List.map_cons, List.map_nil, List.append_assoc]
        · rintro ⟨o2, own2, j2⟩ ⟨ho2, rfl⟩
          simp only at ho2 ⊢
          simp (disch := omega) only [go_sem, seval, encII_len]
          refine AWP.keep [0, 1, 5, 6] (aCode_ok Ty.mixed _ _ _ _ (by kernel_rfl) ?_)
          simp (disch := omega) only [go_sem, seval]
          refine roundS_next ⟨don ++ [x], r, out ++ (chooseF r k).map (x :: ·), own2, j2⟩ (by simp) ⟨by simp, ho2, ?_⟩ ?_ rfl
          · rw [← hc]; simp [chooseF]
          · simp (disch := omega) only [go_sem, seval, List.length_append]
    · refine AWP.keep [5] (aCode_ok Ty.mixed _ _ _ _ (by kernel_rfl) ?_)
      simp (disch := omega) only [go_sem, seval]
      have : chooseF rest (k + 1) = [] := choose_short _ _ (by omega)
      rw [this, List.append_nil] at hc
      rw [hc]

set_option maxRecDepth 100000 in
theorem others26_calls (Γ : Nat → Option (List AV)) (l out : List Int) (h : AH) (hl : l.length ≤ 1000000) (ho : out.length ≤ 1000000) :
    ACalls Tryz.prog Γ 21 [.sl (encI l) .free, .sl (encI out) .free] h fun v h' => h' = h ∧ v = .sl (encI (wtF l out)) .free := by
  refine ACalls.dropL ?_
  refine acalls_code (rs := [.tmp 4]) Tryz.func21 rfl rfl rfl rfl Ty.mixed (by kernel_rfl) ?_
  simp (disch := omega) only [go_sem, seval]
  refine awp_loopL (β := FlS) l [0, 1, 5, 6] (fun don s => [(0, .sl (encI l) .free), (1, .sl (encI out) .free), (5, .sl (encI s.l) s.own), (6, .int .i64 don.length)])
    (fun s => h ++ s.j) (fun don r s => OwnAt h s.j s.l.length s.own ∧ s.l = wtF don out) ⟨[], .full, []⟩ ?_ (by simp) ⟨trivial, rfl⟩ Ty.mixed (by kernel_rfl) ?_ ?_
  · simp (disch := omega) only [go_sem, seval, encI, List.map_nil]
  · rintro don x r ⟨m, own, j⟩ rfl ⟨ho', hm⟩
    simp only at ho' hm ⊢
    have hl3 := len_mid hl
    have hml : m.length ≤ don.length := by rw [hm]; exact List.length_filter_le _ _
    have e1 : (encI (don ++ x :: r))[don.length]? = some (.int .i64 x) := by simp [encI]
    simp (disch := omega) only [go_sem, seval, encI_len, List.length_append, List.length_cons]
    refine aIf.pos (by omega) ?_
    simp (disch := omega) only [go_sem, seval, encI_len, List.length_append, List.length_cons, e1]
    refine ACalls.det (has_calls Γ out x _ (by omega)) ?_
    simp (disch := omega) only [go_sem, seval]
    refine aIf.intro (fun h1 => ?_) (fun h1 => ?_) <;> simp (disch := omega) only [go_sem, seval]
    · refine roundL_next ⟨m, own, j⟩ ⟨ho', ?_⟩ ?_ rfl
      · rw [hm]; simp [wtF, h1]
      · simp (disch := omega) only [go_sem, seval, List.length_append]
    · simp (disch := omega) only [go_sem, seval, encI_len, List.length_append, List.length_cons, e1]
      refine aAp_sl (by rw [encI_len]; exact ho') (rowsOK_I _) (rowsOK_I [x]) (by simp [encI_len]; omega) (by simp [encI_len]; omega) fun j' own' ho2 hg => ?_
      rw [encI_snoc]
      simp (disch := omega) only [go_sem, seval]
      refine roundL_next ⟨m ++ [x], own', j'⟩ ⟨?_, ?_⟩ ?_ rfl
      · simpa [encI_len] using ho2
      · rw [hm]; simp [wtF, h1]
      · simp (disch := omega) only [go_sem, seval, List.length_append]
  · rintro ⟨m, own, j⟩ ⟨ho', hm⟩
    simp only at hm
    simp (disch := omega) only [go_sem, seval, encI_len]
    refine AWP.keep [5] (aCode_ok Ty.mixed _ _ _ _ (by kernel_rfl) ?_)
    simp (disch := omega) only [go_sem, seval]
    rw [hm]
set_option maxRecDepth 100000 in
theorem rholds26_calls (Γ : Nat → Option (List AV)) (g : Gt) (who : List Int) (h : AH) (hs : Sh g) (hw : who.length ≤ 9223372036854775807) :
    ACalls Tryz.prog Γ 45 [encG g, .sl (encI who) .free] h fun v h' => h' = h ∧ v = .bool (permF g who) := by
  refine ACalls.drop ?_
  refine acalls_code (rs := [.tmp 4]) Tryz.func45 rfl rfl rfl rfl Ty.mixed (by kernel_rfl) ?_
  simp (disch := omega) only [go_sem, seval]
  refine ACalls.det (rHolds_calls Γ g who _ hs hw) ?_
  simp (disch := omega) only [go_sem, seval, encR]
  rfl
set_option maxRecDepth 100000 in
theorem sameI26_calls (Γ : Nat → Option (List AV)) (a b : List Int) (h : AH) (hl : a.length ≤ 9223372036854775807) :
    ACalls Tryz.prog Γ 12 [.sl (encI a) .free, .sl (encI b) .free] h fun v h' => h' = h ∧ v = .bool (decide (a = b)) := by
  refine ACalls.drop ?_
  refine acalls_code (rs := [.tmp 4]) Tryz.func12 rfl rfl rfl rfl Ty.mixed (by kernel_rfl) ?_
  simp (disch := omega) only [go_sem, seval, encI_len]
  refine aIf.intro (fun h1 => ?_) (fun h1 => ?_) <;> simp (disch := omega) only [go_sem, seval]
  rotate_left
  · have : a ≠ b := fun e => h1 (by rw [e])
    simp [this]
  have h2 : a.length = b.length := by omega
  refine awp_loopL (β := Unit) a [0, 1, 5] (fun don _ => [(0, .sl (encI a) .free), (1, .sl (encI b) .free), (5, .int .i64 don.length)])
    (fun _ => h) (fun don _ _ => b.take don.length = don) () ?_ rfl rfl Ty.mixed (by kernel_rfl) ?_ ?_
  · simp (disch := omega) only [go_sem, seval]
  · rintro don x r _ rfl hb
    have hl3 := len_mid hl
    have e1 : (encI (don ++ x :: r))[don.length]? = some (.int .i64 x) := by simp [encI]
    have hd : don.length < b.length := by simp at h2; omega
    have e2 := encI_get b don.length hd
    simp (disch := omega) only [go_sem, seval, encI_len, List.length_append, List.length_cons]
    refine aIf.pos (by omega) ?_
    simp (disch := omega) only [go_sem, seval, encI_len, List.length_append, List.length_cons, e1, e2]
    refine aIf.intro (fun h3 => ?_) (fun h3 => ?_) <;> simp (disch := omega) only [go_sem, seval]
    · refine roundL_next () ?_ ?_ rfl
      · have hd' : b = b.take don.length ++ b[don.length] :: b.drop (don.length + 1) := by rw [List.getElem_cons_drop, List.take_append_drop]
        rw [List.length_append, List.length_singleton, List.take_succ_eq_append_getElem hd, hb, ← h3]
      · simp (disch := omega) only [go_sem, seval, List.length_append]
    · have hne : don ++ x :: r ≠ b := fun e => h3 (by subst e; simp)
      simp [hne]
  · rintro _ hb
    simp (disch := omega) only [go_sem, seval, encI_len]
    refine AWP.keep [] (aCode_ok Ty.mixed _ _ _ _ (by kernel_rfl) ?_)
    simp (disch := omega) only [go_sem, seval]
    have : a = b := by rw [h2, List.take_length] at hb; exact hb.symm
    simp [this]
set_option maxRecDepth 100000 in
theorem sameL26_calls (Γ : Nat → Option (List AV)) (a b : List (List Int)) (h : AH) (hl : a.length ≤ 9223372036854775807) (ha : ∀ s ∈ a, s.length ≤ 9223372036854775807) :
    ACalls Tryz.prog Γ 17 [.sl (encII a) .free, .sl (encII b) .free] h fun v h' => h' = h ∧ v = .bool (decide (a = b)) := by
  refine ACalls.drop ?_
  refine acalls_code (rs := [.tmp 4]) Tryz.func17 rfl rfl rfl rfl Ty.mixed (by kernel_rfl) ?_
  simp (disch := omega) only [go_sem, seval, encII_len]
  by_cases hab : a.length = b.length
  · refine aIf.pos (by omega) ?_
    simp (disch := omega) only [go_sem, seval]
    refine awp_loopL (β := Unit) a [0, 1, 5] (fun don _ => [(0, .sl (encII a) .free), (1, .sl (encII b) .free), (5, .int .i64 don.length)]) (fun _ => h) (fun don rest _ => don = b.take don.length) () ?_ rfl (by simp) Ty.mixed (by kernel_rfl) ?_ ?_
    · simp (disch := omega) only [go_sem, seval]
    · rintro don x r _ rfl hx
      have hl3 : b.length = don.length + (r.length + 1) := by rw [← hab]; simp
      obtain ⟨d2, y, r2, rfl, hd⟩ : ∃ d2 y r2, b = d2 ++ y :: r2 ∧ d2.length = don.length := by
        refine ⟨b.take don.length, b[don.length]'(by omega), b.drop (don.length + 1), ?_, by simp; omega⟩
        rw [List.getElem_cons_drop, List.take_append_drop]
      have hdd : don = d2 := by rw [hx, ← hd]; simp
      subst hdd
      have e1 := encII_get don r x
      have e2 := encII_get don r2 y
      simp (disch := omega) only [go_sem, seval, encII_len, List.length_append, List.length_cons]
      refine aIf.pos (by omega) ?_
      simp (disch := omega) only [go_sem, seval, encII_len, List.length_append, List.length_cons, e1, e2]
      refine aCallF.intro (fun _ => sameI26_calls Γ x y _ (ha x (by simp))) ?_
      simp (disch := omega) only [go_sem, seval]
      refine aIf.intro (fun hxy => ?_) (fun hxy => ?_) <;> simp (disch := omega) only [go_sem, seval]
      · subst hxy
        refine roundL_next () ?_ ?_ rfl
        · rw [List.length_append, List.length_singleton, List.take_length_add_append]; rfl
        · simp (disch := omega) only [go_sem, seval, List.length_append]
      · rw [decide_eq_false]
        intro e
        have := List.append_cancel_left e
        rw [List.cons.injEq] at this
        exact hxy this.1
    · intro _ hx
      simp (disch := omega) only [go_sem, seval, encII_len]
      refine AWP.keep [] (aCode_ok Ty.mixed _ _ _ _ (by kernel_rfl) ?_)
      simp (disch := omega) only [go_sem, seval]
      rw [hab, List.take_length] at hx
      rw [decide_eq_true hx]
  · refine aIf.neg (by omega) ?_
    simp (disch := omega) only [go_sem, seval]
    rw [decide_eq_false fun e => hab (by rw [e])]
end Go.Proofs.YtlgamlamolfnlaaGreat

/- The reference's Lockout, Great and what they ask. No conditions. -/
set_option linter.unusedSimpArgs false
set_option linter.unusedVariables false
namespace Go.Proofs.YtlgamlamolfnlaaGreat
open Go Go.Proofs Go.Abs

set_option maxRecDepth 100000 in
theorem rlocks26_calls (Γ : Nat → Option (List AV)) (g : Gt) (who : List Int) (h : AH) (hs : Sh g) (hb : allLeaves g ≤ 1000) (hw : who.length ≤ 1000000) :
    ACalls Tryz.prog Γ 36 [encG g, .sl (encI who) .free] h fun v h' => h' = h ∧ v = .bool (locksF g who) := by
  have hpl := pplF_len hb
  have hwl := wtF_len (pplF g) who
  have c0 := fun h => rholds26_calls Γ g who h hs (by omega)
  have c1 := fun h => ppl26_calls Γ g h hs hb
  have c2 := fun h => others26_calls Γ (pplF g) who h (by omega) hw
  have c3 := fun h => rholds26_calls Γ g (wtF (pplF g) who) h hs (by omega)
  rw [locksF]
  cases g with | mk p n l =>
  obtain ⟨g, hg⟩ : ∃ g, g = Gt.mk p n l := ⟨_, rfl⟩
  have eG : encG g = .agg [.int .i64 p, .int .i64 n, .sl (l.map encG) .free] := by rw [hg, encG_mk]
  rw [← hg] at c0 c1 c2 c3 ⊢
  rw [eG] at c0 c1 c3 ⊢
  refine ACalls.drop ?_
  refine acalls_code (rs := [.tmp 4]) Tryz.func36 rfl rfl rfl rfl Ty.mixed (by kernel_rfl) ?_
  simp (disch := omega) only [go_sem, seval]
  refine aCallF.intro (fun _ => c0 _) ?_
  simp (disch := omega) only [go_sem, seval]
  cases hp : permF g who with
  | false => simp (disch := omega) only [go_sem, seval]
  | true =>
    simp (disch := omega) only [go_sem, seval]
    refine aCallF.intro (fun _ => c1 _) ?_
    simp (disch := omega) only [go_sem, seval]
    refine aCallF.intro (fun _ => c2 _) ?_
    simp (disch := omega) only [go_sem, seval]
    refine aCallF.intro (fun _ => c3 _) ?_
    simp (disch := omega) only [go_sem, seval]
set_option maxRecDepth 100000 in
theorem rerr26_calls (Γ : Nat → Option (List AV)) (g : Gt) (most : Int) (h : AH) (hs : Sh g) :
    ACalls Tryz.prog Γ 34 [encG g, .int .i64 most] h fun v h' => h' = h ∧ v = .int .i64 (errL g most) := by
  have c0 := fun h => rsets_calls Γ g h hs
  obtain ⟨l, e, hE⟩ : ∃ l e, smallR g false = (l, e) := ⟨_, _, rfl⟩
  have hr : errL g most = if e = 0 then (if most < 0 ∨ 64 < most then 1 else 0) else e := by rw [errL, hE]
  rw [hE, encS] at c0
  rw [hr]
  cases g with | mk p n gl =>
  obtain ⟨g, hg⟩ : ∃ g, g = Gt.mk p n gl := ⟨_, rfl⟩
  have eG : encG g = .agg [.int .i64 p, .int .i64 n, .sl (gl.map encG) .free] := by rw [hg, encG_mk]
  rw [← hg] at c0 ⊢
  rw [eG] at c0 ⊢
  refine ACalls.drop ?_
  refine acalls_code (rs := [.tmp 4]) Tryz.func34 rfl rfl rfl rfl Ty.mixed (by kernel_rfl) ?_
  simp (disch := omega) only [go_sem, seval]
  refine ACalls.det (c0 _) ?_
  simp (disch := omega) only [go_sem, seval]
  refine aIf.intro (fun he => ?_) (fun he => ?_) <;> simp (disch := omega) only [go_sem, seval]
  rotate_left
  · rw [if_neg he]
  rw [if_pos he]
  refine aIf.intro (fun hm => ?_) (fun hm => ?_) <;> simp (disch := omega) only [go_sem, seval]
  · rw [if_pos (by omega)]
  refine aIf.intro (fun hm2 => ?_) (fun hm2 => ?_) <;> simp (disch := omega) only [go_sem, seval]
  · rw [if_pos (by omega)]
  · rw [if_neg (by omega)]
set_option maxRecDepth 100000 in
theorem rlockout26_calls (Γ : Nat → Option (List AV)) (g : Gt) (most : Int) (h : AH) (hs : Sh g) :
    ACalls Tryz.prog Γ 11 [encG g, .int .i64 most] h fun v h' => h' = h ∧ v = encLk (lockR g most) := by
  have c0 := fun h => rerr26_calls Γ g most h hs
  cases g with | mk p n gl =>
  obtain ⟨g, hg⟩ : ∃ g, g = Gt.mk p n gl := ⟨_, rfl⟩
  have eG : encG g = .agg [.int .i64 p, .int .i64 n, .sl (gl.map encG) .free] := by rw [hg, encG_mk]
  rw [← hg] at c0 hs ⊢
  rw [eG] at c0
  rw [eG]
  refine ACalls.dropL ?_
  refine acalls_code (rs := [.tmp 4, .tmp 5, .tmp 6]) Tryz.func11 rfl rfl rfl rfl Ty.mixed (by kernel_rfl) ?_
  simp (disch := omega) only [go_sem, seval]
  refine ACalls.det (c0 _) ?_
  simp (disch := omega) only [go_sem, seval]
  refine aIf.intro (fun herr => ?_) (fun herr => ?_) <;> simp (disch := omega) only [go_sem, seval]
  rotate_left
  · rw [lockR, if_neg herr]
    rfl
  rw [lockR, if_pos herr]
  have hk := errL_ok herr
  have hm := hk.m
  have hlv := hk.lv
  have c1 := fun h => ppl26_calls Γ g h hs (by omega)
  have c2 := fun x hx h => rlocks26_calls Γ g x h hs (by omega) hx
  rw [eG] at c1 c2
  have hn := hk.n
  obtain ⟨P, hPe⟩ : ∃ P, P = pplF g := ⟨_, rfl⟩
  have htop : topF g most = min most.toNat P.length := by rw [topF, hPe]
  rw [← hPe] at c1 hn ⊢
  refine ACalls.det (c1 _) ?_
  simp (disch := omega) only [go_sem, seval, encI_len]
  obtain ⟨T, hT⟩ : ∃ T, T = min most.toNat P.length := ⟨_, rfl⟩
  rw [htop, ← hT]
  have hTw : (if (P.length : Int) < most then (P.length : Int) else most) = (T : Int) := by rw [hT]; split <;> omega
  refine awp_loopS (α := Nat) [1, 2, 8, 9] (fun i => [(1, .int .i64 most), (2, .ptr (some (h.length, 0))), (8, .sl (encI P) .free), (9, .int .i64 i)])
    (fun i => h ++ [.row [.int .i64 p, .int .i64 n, .sl (gl.map encG) .free] 24]) (fun i => i ≤ T + 1 ∧ ∀ s ∈ allUp P i, locksF g s = false) (fun i => T + 1 - i) 0 ?_ rfl ⟨by omega, by simp [allUp]⟩ Ty.mixed (by kernel_rfl) ?_
  · simp (disch := omega) only [go_sem, seval]
  rintro i ⟨hi, hno⟩
  simp (disch := omega) only [go_sem, seval, encI_len, hTw]
  refine aIf.intro (fun hi2 => ?_) (fun hi2 => ?_) <;> simp (disch := omega) only [go_sem, seval]
  rotate_left
  · obtain rfl : i = T + 1 := by omega
    refine AWP.keep [] (aCode_ok Ty.mixed _ _ _ _ (by kernel_rfl) ?_)
    simp (disch := omega) only [go_sem, seval]
    rw [firstF, List.find?_eq_none.2 (fun s hs => by rw [hno s hs]; simp)]
    rfl
  have hch : (chooseF P i).length ≤ 4096 := Nat.le_trans (choose_pow P i) (Nat.pow_le_pow_right (n := 2) (by decide) hn)
  refine ACalls.det (subsets26_calls Γ i P _ hn (by omega)) ?_
  simp (disch := omega) only [go_sem, seval]
  refine awp_loopL (β := Unit) (chooseF P i) [1, 2, 8, 9, 10, 11] (fun don _ => [(1, .int .i64 most), (2, .ptr (some (h.length, 0))), (8, .sl (encI P) .free), (9, .int .i64 i), (10, .sl (encII (chooseF P i)) .free), (11, .int .i64 don.length)])
    (fun _ => h ++ [.row [.int .i64 p, .int .i64 n, .sl (gl.map encG) .free] 24]) (fun don _ _ => ∀ s ∈ don, locksF g s = false) () ?_ rfl (by simp) Ty.mixed (by kernel_rfl) ?_ ?_
  · simp (disch := omega) only [go_sem, seval]
  · rintro don x r _ hd hdn
    have hxl : x.length = i := choose_mem P i x (by rw [hd]; simp)
    have hl3 : don.length + 1 + r.length ≤ 4096 := by rw [hd] at hch; simp at hch; omega
    have e1 := encII_get don r x
    simp (disch := omega) only [go_sem, seval, encII_len]
    rw [hd]
    simp (disch := omega) only [go_sem, seval, List.length_append, List.length_cons]
    refine aIf.pos (by omega) ?_
    simp (disch := omega) only [go_sem, seval, encII_len, e1, List.length_append, List.length_cons]
    refine aCallF.intro (fun _ => c2 x (by omega) _) ?_
    simp (disch := omega) only [go_sem, seval]
    cases hx : locksF g x with
    | true =>
      simp (disch := omega) only [go_sem, seval, encII_len, e1, List.length_append, List.length_cons]
      rw [firstF, find_up hno hd hdn hx (by omega)]
      rfl
    | false =>
      simp (disch := omega) only [go_sem, seval]
      refine roundL_next () ?_ ?_ rfl
      · intro s hs
        rcases List.mem_append.1 hs with hs | hs
        · exact hdn s hs
        · rw [List.mem_singleton] at hs; subst hs; exact hx
      · simp (disch := omega) only [go_sem, seval, List.length_append, hd]
  · intro _ hdn
    simp (disch := omega) only [go_sem, seval, encII_len]
    refine AWP.keep [1, 2, 8, 9] (aCode_ok Ty.mixed _ _ _ _ (by kernel_rfl) ?_)
    simp (disch := omega) only [go_sem, seval]
    refine roundS_next (i + 1) (by omega) ⟨by omega, up_next hno hdn⟩ ?_ rfl
    simp (disch := omega) only [go_sem, seval]
set_option maxRecDepth 100000 in
theorem rgreat26_calls (Γ : Nat → Option (List AV)) (g : Gt) (most : Int) (h : AH) (hs : Sh g) (hk : ErrL g most) :
    ACalls Tryz.prog Γ 41 [encG g, .int .i64 most] h fun v h' => h' = h ∧ v = .sl (encII (greatF g most)) .free := by
  have hm := hk.m
  have hlv := hk.lv
  have hn := hk.n
  have c1 := fun h => ppl26_calls Γ g h hs (by omega)
  have c2 := fun x hx h => rholds26_calls Γ g x h hs hx
  rw [greatF]
  obtain ⟨T, hT⟩ : ∃ T, T = topF g most := ⟨_, rfl⟩
  have hTw : (if ((pplF g).length : Int) < most then ((pplF g).length : Int) else most) = (T : Int) := by rw [hT, topF]; split <;> omega
  have hTl : T ≤ 12 := by rw [hT, topF]; omega
  rw [← hT]
  have hch : (chooseF (pplF g) T).length ≤ 4096 := Nat.le_trans (choose_pow (pplF g) T) (Nat.pow_le_pow_right (n := 2) (by decide) hn)
  cases g with | mk p n gl =>
  obtain ⟨g, hg⟩ : ∃ g, g = Gt.mk p n gl := ⟨_, rfl⟩
  have eG : encG g = .agg [.int .i64 p, .int .i64 n, .sl (gl.map encG) .free] := by rw [hg, encG_mk]
  rw [← hg] at c1 c2 hn hTw hch ⊢
  rw [eG] at c1 c2 ⊢
  refine ACalls.dropL ?_
  refine acalls_code (rs := [.tmp 4]) Tryz.func41 rfl rfl rfl rfl Ty.mixed (by kernel_rfl) ?_
  simp (disch := omega) only [go_sem, seval]
  refine ACalls.det (c1 _) ?_
  simp (disch := omega) only [go_sem, seval, encI_len, hTw]
  refine ACalls.det (subsets26_calls Γ T (pplF g) _ hn hTl) ?_
  simp (disch := omega) only [go_sem, seval]
  refine awp_loopL (β := ChT) (chooseF (pplF g) T) [2, 6, 7, 8] (fun don s => [(2, .ptr (some (h.length, 0))), (6, .sl (encII (chooseF (pplF g) T)) .free), (7, .sl (encII s.out) s.own), (8, .int .i64 don.length)])
    (fun s => h ++ [.row [.int .i64 p, .int .i64 n, .sl (gl.map encG) .free] 24] ++ s.j) (fun don _ s => OwnAt (h ++ [.row [.int .i64 p, .int .i64 n, .sl (gl.map encG) .free] 24]) s.j s.out.length s.own ∧ s.out = don.filter (permF g)) ⟨[], .full, []⟩ ?_ (by simp) ⟨trivial, rfl⟩ Ty.mixed (by kernel_rfl) ?_ ?_
  · simp (disch := omega) only [go_sem, seval]
    rfl
  · rintro don x r ⟨out, own, j⟩ hd ⟨ho, rfl⟩
    simp only at ho ⊢
    have hxl : x.length = T := choose_mem _ T x (by rw [hd]; simp)
    have hl3 : don.length + 1 + r.length ≤ 4096 := by rw [hd] at hch; simp at hch; omega
    have hfl := List.length_filter_le (permF g) don
    have e1 := encII_get don r x
    simp (disch := omega) only [go_sem, seval, encII_len]
    rw [hd]
    simp (disch := omega) only [go_sem, seval, List.length_append, List.length_cons]
    refine aIf.pos (by omega) ?_
    simp (disch := omega) only [go_sem, seval, encII_len, e1, List.length_append, List.length_cons]
    refine aCallF.intro (fun _ => c2 x (by omega) _) ?_
    simp (disch := omega) only [go_sem, seval]
    cases hx : permF g x with
    | true =>
      simp (disch := omega) only [go_sem, seval, encII_len, e1, List.length_append, List.length_cons]
      have eK : ∀ Y : AH, h ++ .row [.int .i64 p, .int .i64 n, .sl (gl.map encG) .free] 24 :: Y = (h ++ [.row [.int .i64 p, .int .i64 n, .sl (gl.map encG) .free] 24]) ++ Y := fun Y => by simp
      rw [eK]
      refine aAp_sl (by rw [encII_len]; exact ho) (rowsOK_II _) (rowsOK_II [x]) (by simp [encII_len]; omega) (by simp [encII_len]; omega) fun j' own' ho' hg' => ?_
      rw [encII_snoc]
      simp (disch := omega) only [go_sem, seval]
      refine roundL_next ⟨don.filter (permF g) ++ [x], own', j'⟩ ⟨by simpa [encII_len] using ho', ?_⟩ ?_ (by simp)
      · rw [List.filter_append, List.filter_cons_of_pos hx, List.filter_nil]
      · simp (disch := omega) only [go_sem, seval, List.length_append, hd]
    | false =>
      simp (disch := omega) only [go_sem, seval]
      refine roundL_next ⟨don.filter (permF g), own, j⟩ ⟨ho, ?_⟩ ?_ (by simp)
      · rw [List.filter_append, List.filter_cons_of_neg (by simp [hx]), List.filter_nil, List.append_nil]
      · simp (disch := omega) only [go_sem, seval, List.length_append, hd]
  · rintro ⟨out, own, j⟩ ⟨ho, rfl⟩
    simp (disch := omega) only [go_sem, seval, encII_len]
    refine AWP.keep [7] (aCode_ok Ty.mixed _ _ _ _ (by kernel_rfl) ?_)
    simp (disch := omega) only [go_sem, seval]
end Go.Proofs.YtlgamlamolfnlaaGreat
