/- Texts joined: LokG, LokH. No conditions. -/
import Derived.Test.YtlgamlamolfnlaaGreatMrAC
/- The program's Lockout. No conditions. -/
set_option linter.unusedSimpArgs false
set_option linter.unusedVariables false
namespace Go.Proofs.YtlgamlamolfnlaaGreat
open Go Go.Proofs Go.Abs

def encLk (r : List Int × Bool × Int) : AV := .tuple [.sl (encI r.1) .free, .bool r.2.1, .int .i64 r.2.2]
structure LkS where
  i : Nat
  j : AH
/-- Lockout's heap. -/
def lkK (h : AH) (G lc : AObj) (j : AH) (a b c : AV) (lo : AObj) (X : AH) : AH := h ++ ([G, .row [a] 27, .row [b] 4, .row [c] 28, lc] ++ (j ++ lo :: X))
theorem NoLoop.app {a b : AH} (ha : NoLoop a) (hb : NoLoop b) : NoLoop (a ++ b) := fun ob ho => by
  rcases List.mem_append.1 ho with ho | ho
  · exact ha ob ho
  · exact hb ob ho
theorem NoLoop.nil : NoLoop [] := fun _ h => by simp at h
theorem NoLoop.wtO (b : Nat) (who : List Int) : NoLoop (wtO b who) := fun ob ho st pe li e => by
  simp only [Proofs.YtlgamlamolfnlaaGreat.wtO, List.mem_cons, List.not_mem_nil, or_false] at ho
  rcases ho with rfl | rfl <;> cases e
section
variable {h : AH} {G lc : AObj} {j : AH} {a b c : AV} {lo : AObj} {X : AH}
theorem lk_len : (lkK h G lc j a b c lo X).length = h.length + 5 + j.length + 1 + X.length := by simp [lkK]; omega
theorem lk_G : (lkK h G lc j a b c lo X)[h.length]? = some G := by simp [lkK]
theorem lk_l : (lkK h G lc j a b c lo X)[h.length + 4]? = some lc := by simp [lkK]
theorem lk_L : (lkK h G lc j a b c lo X)[h.length + 5 + j.length]? = some lo := by
  rw [lkK, Nat.add_assoc, hget_add, List.getElem?_append_right (by simp)]
  simp
theorem lk_a (x : AV) : (lkK h G lc j a b c lo X).set (h.length + 1) (.row [x] 27) = lkK h G lc j x b c lo X := by rw [lkK, hset_add]; rfl
theorem lk_b (x : AV) : (lkK h G lc j a b c lo X).set (h.length + 2) (.row [x] 4) = lkK h G lc j a x c lo X := by rw [lkK, hset_add]; rfl
theorem lk_c (x : AV) : (lkK h G lc j a b c lo X).set (h.length + 3) (.row [x] 28) = lkK h G lc j a b x lo X := by rw [lkK, hset_add]; rfl
theorem lk_set (x : AObj) : (lkK h G lc j a b c lo X).set (h.length + 5 + j.length) x = lkK h G lc j a b c x X := by
  rw [lkK, Nat.add_assoc, hset_add, List.set_append_right _ _ (by simp)]
  simp [lkK]
theorem lk_ga : (lkK h G lc j a b c lo X)[h.length + 1]? = some (.row [a] 27) := by simp [lkK]
theorem lk_gb : (lkK h G lc j a b c lo X)[h.length + 2]? = some (.row [b] 4) := by simp [lkK]
theorem lk_gc : (lkK h G lc j a b c lo X)[h.length + 3]? = some (.row [c] 28) := by simp [lkK]
theorem lk_app (Y : AH) : lkK h G lc j a b c lo X ++ Y = lkK h G lc j a b c lo (X ++ Y) := by simp [lkK]
end
set_option maxHeartbeats 1600000 in
set_option maxRecDepth 100000 in
theorem lockout_calls (Γ : Nat → Option (List AV)) (g : Gt) (most : Int) (h : AH) (hs : Sh g) :
    ACalls Tryz.prog Γ 10 [encG g, .int .i64 most] h fun v h' => h' = h ∧ v = encLk (lockR g most) := by
  cases g with | mk p n gl =>
  obtain ⟨g, hg⟩ : ∃ g, g = Gt.mk p n gl := ⟨_, rfl⟩
  have eG : encG g = .agg [.int .i64 p, .int .i64 n, .sl (gl.map encG) .free] := by rw [hg, encG_mk]
  rw [← hg] at hs ⊢
  have c0 := fun h => check26_calls Γ g most h hs
  rw [eG] at c0
  rw [eG]
  refine ACalls.dropL ?_
  refine acalls_code (rs := [.cell 4 27, .cell 5 4, .cell 6 28]) Tryz.func10 rfl rfl rfl rfl Ty.mixed (by kernel_rfl) ?_
  simp (disch := omega) only [go_sem, seval]
  refine ACalls.det (c0 _) ?_
  simp (disch := omega) only [go_sem, seval]
  refine aIf.intro (fun herr => ?_) (fun herr => ?_) <;> simp (disch := omega) only [go_sem, seval]
  rotate_left
  · rw [lockR, if_neg herr]
    rfl
  rw [lockR, if_pos herr]
  have hk := errL_ok herr
  have hm := hk.m
  have c1 := fun h => people26_calls Γ g h hs hk.c hk.n
  have c2 := fun x hx h => holds26_calls Γ g x h hs hk.c hx
  rw [eG] at c1 c2
  have hP := ppl_lt hk.c
  have hn := hk.n
  obtain ⟨P, hPe⟩ : ∃ P, P = pplF g := ⟨_, rfl⟩
  have htop : topF g most = min most.toNat P.length := by rw [topF, hPe]
  have hlk : locksF g = fun s => permF g s && !permF g (wtF P s) := by funext s; rw [locksF, hPe]
  rw [← hPe] at c1 hP hn ⊢
  refine ACalls.det (c1 _) ?_
  simp (disch := omega) only [go_sem, seval, encI_len]
  obtain ⟨T, hT⟩ : ∃ T, T = min most.toNat P.length := ⟨_, rfl⟩
  rw [htop, ← hT]
  have hTw : (if (P.length : Int) < most then (P.length : Int) else most) = (T : Int) := by rw [hT]; split <;> omega
  refine awp_loopS (α := LkS) [2, 4, 5, 6, 9, 27, 28] (fun x => [(2, .ptr (some (h.length, 0))), (4, .ptr (some (h.length + 1, 0))), (5, .ptr (some (h.length + 2, 0))), (6, .ptr (some (h.length + 3, 0))), (9, .ptr (some (h.length + 4, 0))), (27, .int .i64 ((T + 1 : Nat) : Int)), (28, .int .i64 x.i)])
    (fun x => h ++ ([.row [.int .i64 p, .int .i64 n, .sl (gl.map encG) .free] 24, .row [.sl [] .full] 27, .row [.bool false] 4, .row [.int .i64 0] 28, .row [.sl (encI P) .free] 27] ++ x.j)) (fun x => x.i ≤ T + 1 ∧ (∀ s ∈ allUp P x.i, locksF g s = false) ∧ NoLoop x.j) (fun x => T + 1 - x.i) ⟨0, []⟩ ?_ (by simp) ⟨Nat.zero_le _, by simp [allUp], fun _ h => by simp at h⟩ Ty.mixed (by kernel_rfl) ?_
  · simp (disch := omega) only [go_sem, seval, hTw]
  rintro ⟨i, j⟩ ⟨hi, hno, hj⟩
  simp only at hi hno hj ⊢
  simp (disch := omega) only [go_sem, seval]
  refine aIf.intro (fun hi2 => ?_) (fun hi2 => ?_) <;> simp (disch := omega) only [go_sem, seval]
  rotate_left
  · obtain rfl : i = T + 1 := by omega
    refine AWP.keep [4, 5, 6] (aCode_ok Ty.mixed _ _ _ _ (by kernel_rfl) ?_)
    simp (disch := omega) only [go_sem, seval]
    rw [firstF, List.find?_eq_none.2 (fun s hs => by rw [hno s hs]; simp)]
    rfl
  refine ACalls.det (coalitions_calls Γ P i _) ?_
  simp (disch := omega) only [go_sem, seval, coalF]
  refine AWP.keep [2, 4, 5, 6, 9, 27, 28, 33] ?_
  simp (disch := omega) only [go_sem, seval]
  refine awp_rangeFuncNL rfl (fun li hli => ?_)
  obtain ⟨L2, hL2⟩ : ∃ L2, L2 = h.length + 5 + j.length := ⟨_, rfl⟩
  obtain ⟨B0, hB0⟩ : ∃ B0 : AH, B0 = h ++ .row [.int .i64 p, .int .i64 n, .sl (gl.map encG) .free] 24 :: .row [.sl [] .full] 27 :: .row [.bool false] 4 :: .row [.int .i64 0] 28 :: .row [.sl (encI P) .free] 27 :: j := ⟨_, rfl⟩
  rw [← hB0]
  obtain ⟨K, hK⟩ : ∃ K : AV → AV → AV → AObj → AH → AH, K = lkK h (.row [.int .i64 p, .int .i64 n, .sl (gl.map encG) .free] 24) (.row [.sl (encI P) .free] 27) j := ⟨_, rfl⟩
  have Klen : ∀ a b c lo X, (K a b c lo X).length = L2 + 1 + X.length := fun a b c lo X => by rw [hK, lk_len, hL2]
  have Kg : ∀ a b c lo X, (K a b c lo X)[h.length]? = some (.row [.int .i64 p, .int .i64 n, .sl (gl.map encG) .free] 24) := fun a b c lo X => by rw [hK, lk_G]
  have Kl : ∀ a b c lo X, (K a b c lo X)[h.length + 4]? = some (.row [.sl (encI P) .free] 27) := fun a b c lo X => by rw [hK, lk_l]
  have KL : ∀ a b c lo X, (K a b c lo X)[L2]? = some lo := fun a b c lo X => by rw [hK, hL2, lk_L]
  have Ka : ∀ a b c lo X, (K a b c lo X)[h.length + 1]? = some (.row [a] 27) := fun a b c lo X => by rw [hK, lk_ga]
  have Kb : ∀ a b c lo X, (K a b c lo X)[h.length + 2]? = some (.row [b] 4) := fun a b c lo X => by rw [hK, lk_gb]
  have Kc : ∀ a b c lo X, (K a b c lo X)[h.length + 3]? = some (.row [c] 28) := fun a b c lo X => by rw [hK, lk_gc]
  have Sa : ∀ a b c lo X x, (K a b c lo X).set (h.length + 1) (.row [x] 27) = K x b c lo X := fun a b c lo X x => by rw [hK, lk_a]
  have Sb : ∀ a b c lo X x, (K a b c lo X).set (h.length + 2) (.row [x] 4) = K a x c lo X := fun a b c lo X x => by rw [hK, lk_b]
  have Sc : ∀ a b c lo X x, (K a b c lo X).set (h.length + 3) (.row [x] 28) = K a b x lo X := fun a b c lo X x => by rw [hK, lk_c]
  have SL : ∀ a b c lo X x, (K a b c lo X).set L2 x = K a b c x X := fun a b c lo X x => by rw [hK, hL2, lk_set]
  have KA : ∀ a b c lo X Y, K a b c lo X ++ Y = K a b c lo (X ++ Y) := fun a b c lo X Y => by rw [hK, lk_app]
  have KD : ∀ a b c lo X, ∃ l, K a b c lo X = h ++ l := fun a b c lo X => by rw [hK]; exact ⟨_, rfl⟩
  have hB0l : B0.length = L2 := by rw [hB0, hL2]; simp; omega
  have hH0 : B0 ++ [.loop .ready none li] = K (.sl [] .full) (.bool false) (.int .i64 0) (.loop .ready none li) [] := by rw [hB0, hK]; simp [lkK]
  rw [hB0l, hH0]
  have KK : ∀ a b c a' b' c' s p s' p' X Y, NoLoop Y → Kept (L2 + 1) (K a b c (.loop s p li) X) (K a' b' c' (.loop s' p' li) (X ++ Y)) := fun a b c a' b' c' s p s' p' X Y hY => by
    have q := ((((Kept.app (L2 + 1) (K a b c (.loop s p li) X) hY).setRow (i := h.length + 1) (cs := [a']) (T := 27) (by omega)).setRow (i := h.length + 2) (cs := [b']) (T := 4) (by omega)).setRow (i := h.length + 3) (cs := [c']) (T := 28) (by omega)).setB (i := L2) (s := s') (p := p') (li := li) (by omega) (KL ..)
    rwa [KA, Sa, Sb, Sc, SL] at q
  have C : Consumer Tryz.prog Γ AppNL L2 (L2 + 1) encL1 (chooseF P i) (fun don hx => (∀ s ∈ don, locksF g s = false) ∧ ∃ X, NoLoop X ∧ hx = K (.sl [] .full) (.bool false) (.int .i64 0) (.loop .ready none li) X)
      (fun hx => ∃ x don r X, chooseF P i = don ++ x :: r ∧ (∀ s ∈ don, locksF g s = false) ∧ locksF g x = true ∧ NoLoop X ∧ hx = K (.sl (encI x) .free) (.bool true) (.int .i64 0) (.loop .done (some .ret) li) X) := by
    refine ⟨?_, ?_, ?_⟩
    · rintro don h1 h2 ⟨k1, X, hX, rfl⟩ ⟨Y, hY, rfl⟩
      exact ⟨k1, X ++ Y, NoLoop.app hX hY, KA ..⟩
    · rintro h1 h2 ⟨x, don, r, X, k1, k2, k3, hX, rfl⟩ ⟨Y, hY, rfl⟩
      exact ⟨x, don, r, X ++ Y, k1, k2, k3, NoLoop.app hX hY, KA ..⟩
    · rintro don x r h1 hdx hb1 ⟨k1, X, hX, rfl⟩
      have hxl : x.length = i := choose_mem P i x (by rw [hdx]; simp)
      rw [encL1]
      refine ayield_W hli (KL ..) rfl rfl Ty.mixed (by kernel_rfl) ?_
      simp (disch := omega) only [go_sem, seval, KL, SL]
      refine awp_block (awp_seq (awp_any_of [[0, 1, 2, 3, 4, 5, 6, 7, 8, 9, 10, 11], [0, 1, 2, 3, 4, 6, 5, 7, 8, 9, 10, 11], [0, 1, 2, 3, 4, 6, 7, 5, 8, 9, 10, 11], [0, 1, 2, 3, 5, 4, 6, 7, 8, 9, 10, 11], [0, 1, 2, 3, 5, 6, 4, 7, 8, 9, 10, 11], [0, 1, 2, 3, 5, 6, 7, 4, 8, 9, 10, 11], [0, 1, 2, 3, 5, 6, 7, 8, 4, 9, 10, 11], [0, 1, 2, 3, 6, 4, 5, 7, 8, 9, 10, 11], [0, 1, 2, 3, 6, 4, 7, 5, 8, 9, 10, 11], [0, 1, 2, 3, 6, 5, 4, 7, 8, 9, 10, 11], [0, 1, 2, 3, 6, 5, 7, 4, 8, 9, 10, 11], [0, 1, 2, 3, 6, 5, 7, 8, 4, 9, 10, 11], [0, 1, 2, 3, 6, 7, 4, 5, 8, 9, 10, 11], [0, 1, 2, 3, 6, 7, 5, 4, 8, 9, 10, 11], [0, 1, 2, 3, 6, 7, 5, 8, 4, 9, 10, 11], [1, 0, 2, 3, 4, 5, 6, 7, 8, 9, 10, 11], [1, 0, 2, 3, 4, 6, 5, 7, 8, 9, 10, 11], [1, 0, 2, 3, 4, 6, 7, 5, 8, 9, 10, 11], [1, 0, 2, 3, 5, 4, 6, 7, 8, 9, 10, 11], [1, 0, 2, 3, 5, 6, 4, 7, 8, 9, 10, 11], [1, 0, 2, 3, 5, 6, 7, 4, 8, 9, 10, 11], [1, 0, 2, 3, 5, 6, 7, 8, 4, 9, 10, 11], [1, 0, 2, 3, 6, 4, 5, 7, 8, 9, 10, 11], [1, 0, 2, 3, 6, 4, 7, 5, 8, 9, 10, 11], [1, 0, 2, 3, 6, 5, 4, 7, 8, 9, 10, 11], [1, 0, 2, 3, 6, 5, 7, 4, 8, 9, 10, 11], [1, 0, 2, 3, 6, 5, 7, 8, 4, 9, 10, 11], [1, 0, 2, 3, 6, 7, 4, 5, 8, 9, 10, 11], [1, 0, 2, 3, 6, 7, 5, 4, 8, 9, 10, 11], [1, 0, 2, 3, 6, 7, 5, 8, 4, 9, 10, 11]] (by kernel_rfl) Ty.mixed (by kernel_rfl) ?_))
      intro o ho
      simp only [List.mem_cons, List.not_mem_nil, or_false] at ho
      have cA := fun h => c2 x (by omega) h
      have hno2 : locksF g x = false → ∀ s ∈ don ++ [x], locksF g s = false := fun hx s hs => by
        rcases List.mem_append.1 hs with hs | hs
        · exact k1 s hs
        · rw [List.mem_singleton] at hs; subst hs; exact hx
      cases hp : permF g x with
      | false =>
        rw [hp] at cA
        have hlx : locksF g x = false := by rw [hlk]; simp [hp]
        rcases ho with rfl | rfl | rfl | rfl | rfl | rfl | rfl | rfl | rfl | rfl | rfl | rfl | rfl | rfl | rfl | rfl | rfl | rfl | rfl | rfl | rfl | rfl | rfl | rfl | rfl | rfl | rfl | rfl | rfl | rfl
        all_goals simp only [List.filterMap_cons, List.filterMap_nil, List.getElem?_toArray, List.getElem?_cons_zero, List.getElem?_cons_succ]
        all_goals
          simp (disch := omega) only [go_sem, seval, Kg, Kl, KL]
          refine ACalls.det (cA _) ?_
          simp (disch := omega) only [go_sem, seval, Kg, Kl, KL]
          refine awp_cond (b := false) rfl (fun hc => by cases hc) (fun hc => awp_skip ?_)
          simp (disch := omega) only [go_sem, seval, KL, SL]
          exact ⟨.refl _ _, .inl ⟨hno2 hlx, X, hX, rfl⟩⟩
      | true =>
        rw [hp] at cA
        obtain ⟨q, hq⟩ : ∃ q, q = permF g (wtF P x) := ⟨_, rfl⟩
        have hlx : locksF g x = !q := by rw [hlk, hq]; simp [hp]
        have hwl : (wtF P x).length ≤ P.length := List.length_filter_le _ _
        have cB := fun h => c2 (wtF P x) (by omega) h
        rw [← hq] at cB
        have cC := fun lo X => without26_calls Γ x (K (.sl [] .full) (.bool false) (.int .i64 0) lo X) (by omega)
        have cD := fun lo X => allw_calls Γ P (wkF [] x) ((K (.sl [] .full) (.bool false) (.int .i64 0) lo X).length + 1) (K (.sl [] .full) (.bool false) (.int .i64 0) lo X).length (K (.sl [] .full) (.bool false) (.int .i64 0) lo X ++ wtO (K (.sl [] .full) (.bool false) (.int .i64 0) lo X).length x) (by omega) (by simp [wtO]) (by simp [wtO])
        simp only [KA, wt_wk] at cC cD
        have hXW : ∀ b, NoLoop (X ++ wtO b x) := fun b => NoLoop.app hX (NoLoop.wtO b x)
        rcases ho with rfl | rfl | rfl | rfl | rfl | rfl | rfl | rfl | rfl | rfl | rfl | rfl | rfl | rfl | rfl | rfl | rfl | rfl | rfl | rfl | rfl | rfl | rfl | rfl | rfl | rfl | rfl | rfl | rfl | rfl
        all_goals simp only [List.filterMap_cons, List.filterMap_nil, List.getElem?_toArray, List.getElem?_cons_zero, List.getElem?_cons_succ]
        all_goals
          simp (disch := omega) only [go_sem, seval, Kg, Kl, KL]
          refine ACalls.det (cA _) ?_
          simp (disch := omega) only [go_sem, seval, Kg, Kl, KL]
          refine ACalls.detH (cC _ _) ?_
          simp (disch := omega) only [go_sem, seval, Kg, Kl, KL]
          refine ACalls.det (cD _ _) ?_
          simp (disch := omega) only [go_sem, seval, Kg, Kl, KL]
          refine ACalls.det (cB _) ?_
          simp (disch := omega) only [go_sem, seval, Kg, Kl, KL]
          cases q with
          | true =>
            refine awp_cond (b := false) rfl (fun hc => by cases hc) (fun hc => awp_skip ?_)
            simp (disch := omega) only [go_sem, seval, KL, SL]
            exact ⟨KK _ _ _ _ _ _ _ _ _ _ _ _ (NoLoop.wtO _ _), .inl ⟨hno2 hlx, _, hXW _, rfl⟩⟩
          | false =>
            refine awp_cond (b := true) rfl (fun hc => ?_) (fun hc => by cases hc)
            refine aCode_ok Ty.mixed _ _ _ _ (by kernel_rfl) ?_
            simp (disch := omega) only [go_sem, seval, Ka, Kb, Kc, Sa, Sb, Sc, KL, SL]
            exact ⟨KK _ _ _ _ _ _ _ _ _ _ _ _ (NoLoop.wtO _ _), .inr ⟨x, don, r, _, hdx, k1, hlx, hXW _, rfl⟩⟩
  rw [← hB0l] at C
  rw [← hB0l]
  refine (coal1_calls Γ P i B0.length (B0.length + 1) _ _ C hn (by omega) _ (by rw [Klen, hB0l]; omega) ⟨by simp, [], NoLoop.nil, rfl⟩).mono ?_
  rintro v h' ⟨q1, q2⟩
  rcases q2 with ⟨q2, X, hX, rfl⟩ | ⟨x, don, r, X, q2, q3, q4, hX, rfl⟩
  · refine rangeN_post (li0 := li) (by rw [hB0l]; exact KL ..) (by rw [hH0]; exact q1.old) (by simp) ?_
    rw [afterLoop_none, hB0l, SL]
    simp (disch := omega) only [go_sem, seval]
    refine AWP.keep [2, 4, 5, 6, 9, 27, 28] (aCode_ok Ty.mixed _ _ _ _ (by kernel_rfl) ?_)
    simp (disch := omega) only [go_sem, seval]
    refine roundS_next ⟨i + 1, j ++ .dead :: X⟩ ?_ ⟨by simp only; omega, up_next hno q2, ?_⟩ ?_ ?_
    · simp only; omega
    · refine NoLoop.app hj fun ob ho st pe li e => ?_
      rcases List.mem_cons.1 ho with rfl | ho
      · cases e
      · exact hX ob ho st pe li e
    · simp (disch := omega) only [go_sem, seval]
    · rw [hK]; rfl
  · refine rangeN_post (li0 := li) (by rw [hB0l]; exact KL ..) (by rw [hH0]; exact q1.old) (by simp) ?_
    rw [hB0l, SL]
    refine afterLoop_some Ty.mixed (by kernel_rfl) ?_
    simp (disch := omega) only [go_sem, seval, Ka, Kb, Kc]
    rw [firstF, find_up hno q2 q3 q4 (by omega)]
    exact ⟨KD .., rfl⟩
end Go.Proofs.YtlgamlamolfnlaaGreat

/- The program's Safe: its parts. No conditions. -/
set_option linter.unusedSimpArgs false
set_option linter.unusedVariables false
namespace Go.Proofs.YtlgamlamolfnlaaGreat
open Go Go.Proofs Go.Abs

/-! ### Appending, the array's entry turned -/
def ArStep (j j' : AH) : Prop := (∃ n, j' = j ++ [.arena n]) ∨ ∃ q m n, j[q]? = some (.arena m) ∧ j' = j.set q (.arena n)
theorem aAp_ar {n by_ : Nat} {rows xs : List AV} {own : Abs.Own} {x : AV} {K j : AH} {C : AV → AH → Prop} (ho : OwnAt K j rows.length own) (hx : SrcIs x (K ++ j) xs) (h1 : RowsOK n rows) (h2 : RowsOK n xs)
    (h3 : rows.length + xs.length ≤ 9223372036854775807) (h4 : (rows.length + xs.length) * by_ ≤ 140737488355328)
    (H : ∀ j' own', OwnAt K j' (rows.length + xs.length) own' → ArStep j j' → C (.sl (rows ++ xs) own') (K ++ j')) : aAp (some (n, by_)) (.sl rows own) x (K ++ j) C := by
  refine ⟨xs, hx, h1, h2, h3, h4, ?_⟩
  cases own with
  | free => exact ho.elim
  | full =>
    have := H (j ++ [.arena (rows.length + xs.length)]) (.arena (K.length + j.length)) ⟨j.length, rfl, by simp⟩ (.inl ⟨_, rfl⟩)
    simpa [List.append_assoc] using this
  | arena i =>
    obtain ⟨i', rfl, e⟩ := ho
    have e' : (K ++ j)[K.length + i']? = some (.arena rows.length) := by rw [hget_add]; exact e
    show (match (K ++ j)[K.length + i']? with
      | some (.arena m) => m = rows.length ∧ C (.sl (rows ++ xs) (.arena (K.length + i'))) ((K ++ j).set (K.length + i') (.arena (rows.length + xs.length)))
      | _ => False)
    rw [e']
    refine ⟨rfl, ?_⟩
    rw [hset_add]
    have hi : i' < j.length := (List.getElem?_eq_some_iff.1 e).1
    exact H _ _ ⟨i', rfl, by rw [List.getElem?_set_self hi]⟩ (.inr ⟨i', _, _, e, rfl⟩)
theorem ArStep.kept {j j' : AH} (h : ArStep j j') (b : Nat) (H : AH) : Kept b (H ++ j) (H ++ j') := by
  rcases h with ⟨n, rfl⟩ | ⟨q, m, n, e, rfl⟩
  · rw [← List.append_assoc]
    exact .app b _ (fun ob ho st pe li e => by rw [List.mem_singleton] at ho; subst ho; cases e)
  · rw [← hset_add]
    have e' : (H ++ j)[H.length + q]? = some (.arena m) := by rw [hget_add]; exact e
    refine ⟨by simp, fun k c T hb hf ek => ?_, fun k st pe li hb => ?_, fun k st pe li ek => ?_⟩
    · rw [List.getElem?_set_ne (fun e2 => by subst e2; rw [e'] at ek; cases ek)]; exact ek
    · by_cases hk : H.length + q = k
      · subst hk
        rw [e', List.getElem?_set_self (hget_of e')]
        constructor <;> intro e2 <;> cases e2
      · rw [List.getElem?_set_ne hk]
    · by_cases hk : H.length + q = k
      · subst hk; rw [List.getElem?_set_self (hget_of e')] at ek; cases ek
      · rw [List.getElem?_set_ne hk] at ek; exact ⟨_, _, _, ek⟩
theorem OwnAt.fra {K j j' : AH} {n : Nat} {own : Abs.Own} (ho : OwnAt K j n own) (h : ∀ (i : Nat) (ob : AObj), j[i]? = some ob → j'[i]? = some ob ∨ ∃ st pe li, ob = .loop st pe li) : OwnAt K j' n own := by
  cases own with
  | full => trivial
  | free => exact ho
  | arena i =>
    obtain ⟨i', rfl, e⟩ := ho
    rcases h _ _ e with h | ⟨st, pe, li, h⟩
    · exact ⟨i', rfl, h⟩
    · cases h
/-! ### The first list that fits -/
set_option maxRecDepth 100000 in
theorem idxLL_calls (Γ : Nat → Option (List AV)) (xs : List (List Int)) (p : List Int → Bool) (fn : FuncId) (fs cs : List AV) (h : AH) (hx : xs.length ≤ 1000000)
    (H : ∀ x ∈ xs, ACalls Tryz.prog Γ fn (fs ++ .sl (encI x) .free :: cs) h fun v h' => h' = h ∧ v = .bool (p x)) :
    ACalls Tryz.prog Γ 38 [.sl (encII xs) .free, .func fn fs cs] h fun v h' => h' = h ∧ ((xs.find? p = none ∧ v = .int .i64 (-1)) ∨ ∃ a x r, xs = a ++ x :: r ∧ xs.find? p = some x ∧ v = .int .i64 a.length) := by
  refine acalls_code (rs := [.tmp 4]) Tryz.func38 rfl rfl rfl rfl Ty.mixed (by kernel_rfl) ?_
  simp (disch := omega) only [go_sem, seval, encII_len]
  refine awp_loopL (β := Unit) xs [0, 1, 7, 8] (fun don _ => [(0, .sl (encII xs) .free), (1, .func fn fs cs), (7, .int .i64 xs.length), (8, .int .i64 don.length)])
    (fun _ => h) (fun don r _ => ∀ y ∈ don, p y = false) () ?_ rfl (by simp) Ty.mixed (by kernel_rfl) ?_ ?_
  · simp (disch := omega) only [go_sem, seval, encII_len]
  · rintro don x r _ rfl hd
    have hl3 := len_mid hx
    have e1 : (encII (don ++ x :: r))[don.length]? = some (.sl (encI x) .free) := by simp [encII]
    simp (disch := omega) only [go_sem, seval, encII_len, List.length_append, List.length_cons]
    refine aIf.pos (by omega) ?_
    simp (disch := omega) only [go_sem, seval, encII_len, List.length_append, List.length_cons, e1]
    refine ACalls.det ((H x (by simp)).args (by simp)) ?_
    simp (disch := omega) only [go_sem, seval]
    have hfd : (don ++ x :: r).find? p = if p x = true then some x else r.find? p := by
      rw [List.find?_append, List.find?_eq_none.2 (fun s hs => by rw [hd s hs]; simp), List.find?_cons]
      cases p x <;> rfl
    cases hp : p x with
    | true =>
      simp (disch := omega) only [go_sem, seval]
      exact .inr ⟨don, x, r, rfl, by rw [hfd, if_pos hp], rfl⟩
    | false =>
      simp (disch := omega) only [go_sem, seval]
      refine roundL_next () ?_ ?_ rfl
      · intro y hy
        rcases List.mem_append.1 hy with hy | hy
        · exact hd y hy
        · rw [List.mem_singleton] at hy; subst hy; exact hp
      · simp (disch := omega) only [go_sem, seval, List.length_append]
  · intro _ hd
    simp (disch := omega) only [go_sem, seval, encII_len]
    refine AWP.keep [] (aCode_ok Ty.mixed _ _ _ _ (by kernel_rfl) ?_)
    simp (disch := omega) only [go_sem, seval]
    exact .inl (List.find?_eq_none.2 fun s hs => by rw [hd s hs]; simp)
theorem apart_len (s who : List Int) : decide ((wtF s who).length = s.length) = apartF s who := by
  rw [apartF, decide_eq_decide, wtF, List.length_filter_eq_length_iff]
  simp
set_option maxRecDepth 100000 in
theorem safe1_calls (Γ : Nat → Option (List AV)) (s who : List Int) (c cw M : Nat) (h : AH) (hl : s.length ≤ 1000000) (h1 : h[c]? = some (.row [wtV cw] 57)) (h2 : h[cw]? = some (.row [.map (some M)] 78)) (h3 : h[M]? = some (mapO (wkF [] who))) :
    ACalls Tryz.prog Γ 39 [.sl (encI s) .free, .ptr (some (c, 0))] h fun v h' => h' = h ∧ v = .bool (apartF s who) := by
  have c0 := allw_calls Γ s (wkF [] who) cw M h hl h2 h3
  rw [wt_wk] at c0
  rw [← apart_len]
  rw [wtV] at h1 c0
  refine ACalls.drop ?_
  refine acalls_code (rs := [.tmp 3]) Tryz.func39 rfl rfl rfl rfl Ty.mixed (by kernel_rfl) ?_
  simp (disch := omega) only [go_sem, seval, h1]
  refine ACalls.det c0 ?_
  simp (disch := omega) only [go_sem, seval, encI_len]
  exact congrArg AV.bool (decide_eq_decide.2 (by omega))
end Go.Proofs.YtlgamlamolfnlaaGreat
