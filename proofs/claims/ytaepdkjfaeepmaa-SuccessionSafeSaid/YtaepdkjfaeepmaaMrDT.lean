/- Texts joined: SucZp. No conditions. -/
import Derived.Test.YtaepdkjfaeepmaaMrDS
/- SuccessionSafe: the walk. No conditions. -/
set_option linter.unusedSimpArgs false
set_option linter.unusedVariables false
namespace Go.Proofs.Ytaepdkjfaeepmaa
open Go Go.Proofs Go.Abs

/-- The map of members as an object. -/
def mbO (M : List (Int × Bool)) : AObj := .map (mEnts (fun n => .int .i64 n) (fun b => .bool b) 0 M) M.length
def prO (M : List (Sg × Int)) : AObj := .map (mEnts kvS (fun n => .int .i64 n) 0 M) M.length
theorem look_mb (p : Int) (M : List (Int × Bool)) (K : AV → Prop) : aLkO false (.bool false) (.int .i64 p) (some (mbO M)) K = K (.bool ((mGet p M).getD false)) := by
  show aLkF _ _ (aFind _ _) _ K = _
  rw [mLook _ _ _ _ p M (mFind_int _ p M 0)]
  cases mGet p M <;> rfl
theorem put_mb (p : Int) (y : Bool) (M : List (Int × Bool)) (h : AH) (i : Nat) (K : AH → Prop) : aMuO (.int .i64 p) (.bool y) (some (mbO M)) h i K = K (h.set i (mbO (mUpd p y M))) := by
  show aMuR ((aFind _ _).bind (putEnt _ M.length _ _)) h i K = _
  rw [mPut (fun n => .int .i64 n) (fun b => .bool b) p y M (mFind_int _ p M 0)]
  rfl
theorem look_pr (k p : Int) (M : List (Sg × Int)) (K : AV → Prop) : aLkOS [(0, .int), (1, .int)] true (.int .i64 0) (.agg [.int .i64 k, .int .i64 p]) (some (prO M)) K = K (mLk (fun n => .int .i64 n) true (.int .i64 0) (mGet ⟨k, p⟩ M)) := by
  show aLkF _ _ (aFindS _ _ _) _ K = _
  exact mLook kvS (fun n => .int .i64 n) true (.int .i64 0) (⟨k, p⟩ : Sg) M (mFind_S _ ⟨k, p⟩ M 0) K
theorem put_pr (k p y : Int) (M : List (Sg × Int)) (h : AH) (i : Nat) (K : AH → Prop) : aUpO [(0, .int), (1, .int)] (.agg [.int .i64 k, .int .i64 p]) (.int .i64 y) (some (prO M)) h i K = K (h.set i (prO (mUpd ⟨k, p⟩ y M))) := by
  show aMuR ((aFindS _ _ _).bind (putEnt _ M.length _ _)) h i K = _
  rw [show AV.agg [.int .i64 k, .int .i64 p] = kvS ⟨k, p⟩ from rfl, mPut kvS (fun n => .int .i64 n) (⟨k, p⟩ : Sg) y M (mFind_S _ ⟨k, p⟩ M 0)]
  rfl
set_option maxRecDepth 100000 in
theorem count25_calls (Γ : Nat → Option (List AV)) (M : List (Int × Bool)) (l : List Int) (a im : Nat) (h : AH) (ha : h[a]? = some (.row [.map (some im)] 46)) (hm : h[im]? = some (mbO M)) (hl : l.length ≤ 9223372036854775807) :
    ACalls Try.prog Γ 25 [.sl (encI l) .free, .ptr (some (a, 0))] h fun v h' => h' = h ∧ v = .int .i64 (cntL M l) := by
  refine acalls_code (rs := [.tmp 3]) Try.func25 rfl rfl rfl rfl Ty.mixed (by kernel_rfl) ?_
  simp (disch := omega) only [go_sem, seval, encI_len]
  refine awp_loopL (β := Unit) l [1, 3, 6, 7, 8] (fun don _ => [(1, .ptr (some (a, 0))), (3, .int .i64 (cntL M don)), (6, .sl (encI l) .free), (7, .int .i64 l.length), (8, .int .i64 don.length)]) (fun _ => h) (fun _ _ _ => True) () ?_ rfl trivial Ty.mixed (by kernel_rfl) ?_ ?_
  · simp (disch := omega) only [go_sem, seval, List.length_nil, show cntL M [] = 0 from rfl]
  · rintro don x r _ hd -
    have hlen : l.length = don.length + 1 + r.length := by rw [hd]; simp; omega
    have e1 : (encI l)[don.length]? = some (.int .i64 x) := by rw [hd]; exact encI_at don r x
    have hc : cntL M (don ++ [x]) = cntL M don + if (mGet x M).getD false = true then 1 else 0 := by
      simp only [cntL, List.filter_append, List.length_append, List.filter_cons, List.filter_nil]
      split <;> rfl
    have hle := cntL_le M don
    simp (disch := omega) only [go_sem, seval]
    refine aIf.pos (by omega) ?_
    simp (disch := omega) only [go_sem, seval, e1, ha, hm, look_mb]
    cases hb : (mGet x M).getD false <;> rw [hb] at hc <;> simp (disch := omega) only [go_sem, seval]
    · rw [if_neg (by simp), Nat.add_zero] at hc
      refine roundL_next () trivial ?_ rfl
      rw [hc]
      simp (disch := omega) only [go_sem, seval, List.length_append]
    · refine roundL_next () trivial ?_ rfl
      rw [hc]
      simp (disch := omega) only [go_sem, seval, List.length_append]
  · rintro _ -
    simp (disch := omega) only [go_sem, seval]
    refine AWP.keep [3] (aCode_ok Ty.mixed _ _ _ _ (by kernel_rfl) ?_)
    simp (disch := omega) only [go_sem, seval]
structure SfA where
  M : List (Int × Bool)
structure SfB where
  P : List (Sg × Int)
  own : Abs.Own
  j : AH
structure SfC where
  m : Nat
  M : List (Int × Bool)
  c : Int
  j : AH
  don : List Sg
  r : List Sg
set_option maxHeartbeats 8000000 in
set_option maxRecDepth 100000 in
theorem sucSafe_calls (Γ : Nat → Option (List AV)) (s : Es) (h : AH) (hs : EsL s) :
    ACalls Try.prog Γ 7 [encEs s] h fun v h' => h' = h ∧ v = .bool true := by
  have c0 := fun h => sane52_calls Γ h
  have c1 := fun h => right52_calls Γ s h hs
  have c2 := fun h => pplan_calls Γ s h hs
  refine ACalls.drop ?_
  simp only [encEs, esC, encPl] at c1 c2 ⊢
  refine acalls_of_awp (rs := [.tmp 2]) Try.func7 rfl rfl rfl rfl ?_
  refine awp_seq (aCode_ok Ty.mixed _ _ _ _ (by kernel_rfl) ?_)
  simp (disch := omega) only [go_sem, seval]
  refine awp_seq (aCode_ok Ty.mixed _ _ _ _ (by kernel_rfl) ?_)
  simp (disch := omega) only [go_sem, seval]
  refine ACalls.det (c0 _) ?_
  simp (disch := omega) only [go_sem, seval]
  refine awp_seq (aCode_ok Ty.mixed _ _ _ _ (by kernel_rfl) ?_)
  simp (disch := omega) only [go_sem, seval]
  refine ACalls.det (c1 _) ?_
  simp (disch := omega) only [go_sem, seval]
  cases hf : rightL s with
  | false => simp (disch := omega) only [go_sem, seval]
  | true =>
  obtain ⟨r1, r2, r3, r4, r5⟩ := rightL_iff.1 hf
  have hO := right_hsOK r5
  have hR := check_esR hs r5
  have hpl := (plan_len hs).2 r5
  have hp64 := Nat.pow_le_pow_right (n := 2) (by decide) r1
  simp (disch := omega) only [go_sem, seval]
  refine awp_seq (aCode_ok Ty.mixed _ _ _ _ (by kernel_rfl) ?_)
  simp (disch := omega) only [go_sem, seval]
  refine ACalls.det (c2 _) ?_
  simp (disch := omega) only [go_sem, seval]
  have he : (planF s).e = 0 := by
    unfold planF
    rw [if_neg (fun e => e r5)]
    split <;> rfl
  rw [he]
  refine awp_seq (aCode_ok Ty.mixed _ _ _ _ (by kernel_rfl) ?_)
  simp (disch := omega) only [go_sem, seval, List.length_map]
  refine aIf.neg (by omega) ?_
  simp (disch := omega) only [go_sem, seval]
  refine awp_seq (aCode_ok Ty.mixed _ _ _ _ (by kernel_rfl) ?_)
  simp (disch := omega) only [go_sem, seval]
  cases hok : (planF s).ok with
  | false => simp (disch := omega) only [go_sem, seval]
  | true =>
  simp (disch := omega) only [go_sem, seval]
  refine awp_seq (aCode_ok Ty.mixed _ _ _ _ (by kernel_rfl) ?_)
  simp (disch := omega) only [go_sem, seval]
  refine awp_seq (aCode_ok Ty.mixed _ _ _ _ (by kernel_rfl) ?_)
  simp (disch := omega) only [go_sem, seval, encI_len]
  refine awp_loopL (β := SfA) s.members [1, 3, 4, 7, 44, 45, 46] (fun don _ => [(1, .ptr (some (h.length, 0))), (3, .sl ((planF s).l.map encSg) .free), (4, .int .i64 (planF s).c), (7, .ptr (some (h.length + 2, 0))), (44, .sl (encI s.members) .free), (45, .int .i64 s.members.length), (46, .int .i64 don.length)])
    (fun w => h ++ [.row (esC s) 26, mbO w.M, .row [.map (some (h.length + 1))] 46]) (fun don _ w => ∀ p, (mGet p w.M).getD false = decide (p ∈ don)) ⟨[]⟩ ?_ rfl (fun p => by simp [mGet]) Ty.mixed (by kernel_rfl) ?_ ?_
  · simp (disch := omega) only [go_sem, seval, List.length_nil]
  · rintro don x r ⟨M⟩ hd hM
    simp only at hM ⊢
    have hlen : s.members.length = don.length + 1 + r.length := by rw [hd]; simp; omega
    have e1 : (encI s.members)[don.length]? = some (.int .i64 x) := by rw [hd]; exact encI_at don r x
    simp (disch := omega) only [go_sem, seval]
    refine aIf.pos (by omega) ?_
    simp (disch := omega) only [go_sem, seval, e1, put_mb]
    refine roundL_next (⟨mUpd x true M⟩ : SfA) (fun p => ?_) ?_ rfl
    · simp only
      have hd : decide (p ∈ don ++ [x]) = (decide (p ∈ don) || decide (p = x)) := by simp
      rw [mGet_upd, hd]
      by_cases e : p = x
      · simp [e]
      · rw [if_neg e, hM p]; simp [e]
    · simp (disch := omega) only [go_sem, seval, List.length_append]
  rintro ⟨M0⟩ hM
  simp only at hM ⊢
  have hMI := MI.first hO hM
  simp (disch := omega) only [go_sem, seval]
  refine AWP.keep [1, 3, 4, 7] (aCode_ok Ty.mixed _ _ _ _ (by kernel_rfl) ?_)
  simp (disch := omega) only [go_sem, seval, esC, encHs_len]
  refine awp_loopL (β := SfB) s.heirs [1, 3, 4, 7, 10, 11, 12, 56, 57, 58] (fun don w => [(1, .ptr (some (h.length, 0))), (3, .sl ((planF s).l.map encSg) .free), (4, .int .i64 (planF s).c), (7, .ptr (some (h.length + 2, 0))), (10, .func 25 [] [.ptr (some (h.length + 2, 0))]), (11, .sl (encI (don.map (·.person))) w.own), (12, .map (some (h.length + 3))), (56, .sl (encHs s.heirs) .free), (57, .int .i64 s.heirs.length), (58, .int .i64 don.length)])
    (fun w => h ++ w.j)
    (fun don _ w => w.j[0]? = some (.row (esC s) 26) ∧ w.j[1]? = some (mbO M0) ∧ w.j[2]? = some (.row [.map (some (h.length + 1))] 46) ∧ w.j[3]? = some (prO w.P) ∧ OwnAt h w.j don.length w.own ∧ PI don w.P) ⟨[], .full, [.row (esC s) 26, mbO M0, .row [.map (some (h.length + 1))] 46, .map [] 0]⟩ ?_ rfl ⟨rfl, rfl, rfl, rfl, trivial, fun x hx => by cases hx⟩ Ty.mixed (by kernel_rfl) ?_ ?_
  · simp (disch := omega) only [go_sem, seval, List.length_nil, List.map_nil, show encI [] = [] from rfl]
  · rintro don x r ⟨P, own, j⟩ hd ⟨j0, j1, j2, j3, ho, hP⟩
    simp only at j0 j1 j2 j3 ho hP ⊢
    have hlen : s.heirs.length = don.length + 1 + r.length := by rw [hd]; simp; omega
    have e1 : (encHs s.heirs)[don.length]? = some (encH x) := by rw [hd]; exact encHs_get don r x
    have hne : ∀ y ∈ don, y.person ≠ x.person := fun y hy => by
      have := hO.srt
      rw [hd, Srt, List.pairwise_append] at this
      have := this.2.2 y hy x (List.mem_cons_self ..)
      omega
    simp only [encH] at e1
    have f : ∀ {i ob}, j[i]? = some ob → ∀ X, (j ++ X)[i]? = some ob := fun {i ob} e X => by rw [List.getElem?_append_left (List.getElem?_eq_some_iff.1 e).1]; exact e
    have j3l : 3 < j.length := (List.getElem?_eq_some_iff.1 j3).1
    simp (disch := omega) only [go_sem, seval]
    refine aIf.pos (by omega) ?_
    simp (disch := omega) only [go_sem, seval, e1, List.length_append]
    obtain ⟨j5, hj5⟩ : ∃ j5, j5 = j ++ [AObj.row [.int .i64 x.person, .int .i64 x.join, .int .i64 x.leave] 50] := ⟨_, rfl⟩
    have p0 : j5[0]? = _ := hj5 ▸ f j0 _
    have p1 : j5[1]? = _ := hj5 ▸ f j1 _
    have p2 : j5[2]? = _ := hj5 ▸ f j2 _
    have p3 : j5[3]? = _ := hj5 ▸ f j3 _
    have px : j5[j.length]? = some (.row [.int .i64 x.person, .int .i64 x.join, .int .i64 x.leave] 50) := by rw [hj5]; simp
    have ho2 : OwnAt h j5 don.length own := hj5 ▸ ho.app _
    rw [← hj5]
    refine aAp_sl (by rw [encI_len, List.length_map]; exact ho2) (rowsOK_I _) (rowsOK_I [x.person]) (by rw [encI_len, List.length_map]; simp; omega) (by rw [encI_len, List.length_map]; simp; omega) fun j6 own' ho' hg => ?_
    have z0 := hg.2 _ _ p0 (by simp)
    have z1 := hg.2 _ _ p1 (by simp [mbO])
    have z2 := hg.2 _ _ p2 (by simp)
    have z3 := hg.2 _ _ p3 (by simp [prO])
    have zx := hg.2 _ _ px (by simp)
    have l3 : 3 < j6.length := (List.getElem?_eq_some_iff.1 z3).1
    have hjn : j.length ≠ 3 := by omega
    have zx2 : ∀ o, (j6.set 3 o)[j.length]? = _ := fun o => (List.getElem?_set_ne (Ne.symm hjn)).trans zx
    have z32 : ∀ o, (j6.set 3 o)[3]? = some o := fun o => List.getElem?_set_self l3
    simp (disch := omega) only [go_sem, seval, zx, z3, put_pr, zx2, z32]
    have hi : encI (don.map (·.person)) ++ [AV.int .i64 x.person] = encI ((don ++ [x]).map (·.person)) := by simp [encI]
    refine roundL_next (⟨mUpd ⟨2, x.person⟩ x.leave (mUpd ⟨1, x.person⟩ x.join P), own', (j6.set 3 _).set 3 _⟩ : SfB) ⟨?_, ?_, ?_, ?_, ?_, hP.step hne⟩ ?_ rfl
    · simp only; rw [List.getElem?_set_ne (by decide), List.getElem?_set_ne (by decide)]; exact z0
    · simp only; rw [List.getElem?_set_ne (by decide), List.getElem?_set_ne (by decide)]; exact z1
    · simp only; rw [List.getElem?_set_ne (by decide), List.getElem?_set_ne (by decide)]; exact z2
    · simp only; rw [List.getElem?_set_self (by rw [List.length_set]; exact l3)]
    · have o1 := OwnAt.set (OwnAt.set ho' z3 (by simp [prO]) (prO (mUpd ⟨1, x.person⟩ x.join P))) (z32 _) (by simp [prO]) (prO (mUpd ⟨2, x.person⟩ x.leave (mUpd ⟨1, x.person⟩ x.join P)))
      simpa [encI_len] using o1
    · rw [hi]
      simp (disch := omega) only [go_sem, seval, List.length_append]
  rintro ⟨P, own, j⟩ ⟨j0, j1, j2, j3, ho, hP⟩
  simp only at j0 j1 j2 j3 ho hP ⊢
  obtain ⟨EB, hEB⟩ : ∃ EB, EB = s.heirs.map (·.person) := ⟨_, rfl⟩
  rw [← hEB]
  have hm := check_num r5
  obtain ⟨k2, k3, k4⟩ : 0 ≤ (planF s).c ∧ (planF s).c ≤ 1048576 * 1048576 ∧ walkF s (numN s.heirs s.members) (planF s).l = some (planF s).c := by
    rcases plan_cases r5 hR with ⟨e1, _⟩ | ⟨_, _, e1, e2, _⟩
    · rw [e1] at hok; cases hok
    · refine ⟨e1, ?_, ?_⟩
      · have := (tabE_bound hR hm).2.1
        have hp : planF s = if (tabF (tabE s) (numN s.heirs s.members)).1 < 0 then ⟨[], 0, false, 0⟩ else ⟨pathF s (tabF (tabE s) (numN s.heirs s.members)).2 (numN s.heirs s.members), (tabF (tabE s) (numN s.heirs s.members)).1, true, 0⟩ := by unfold planF; rw [if_neg (fun e => e r5)]
        rw [hp]
        split
        · decide
        · exact this
      · rcases walkR_cases hR (numN s.heirs s.members) (planF s).l with ⟨_, e⟩ | ⟨c, e, e3, _⟩
        · omega
        · rw [e, ← e2, e3]
  simp (disch := omega) only [go_sem, seval]
  refine AWP.keep [1, 3, 4, 7, 10, 11, 12] (aCode_ok Ty.mixed _ _ _ _ (by kernel_rfl) ?_)
  simp (disch := omega) only [go_sem, seval, List.length_map]
  obtain ⟨N, hN⟩ : ∃ N, N = 2 ^ s.heirs.length := ⟨_, rfl⟩
  refine awp_loopS (α := SfC) [1, 3, 4, 7, 10, 11, 12, 82, 83] (fun w => [(1, .ptr (some (h.length, 0))), (3, .sl ((planF s).l.map encSg) .free), (4, .int .i64 w.c), (7, .ptr (some (h.length + 2, 0))), (10, .func 25 [] [.ptr (some (h.length + 2, 0))]), (11, .sl (encI EB) own), (12, .map (some (h.length + 3))), (82, .int .i64 ((planF s).l.length + 1)), (83, .int .i64 w.don.length)]) (fun w => h ++ w.j)
    (fun w => w.j[0]? = some (.row (esC s) 26) ∧ w.j[1]? = some (mbO w.M) ∧ w.j[2]? = some (.row [.map (some (h.length + 1))] 46) ∧ w.j[3]? = some (prO P) ∧ MI s w.m w.M ∧ w.m < N ∧ (planF s).l = w.don ++ w.r ∧ walkF s w.m w.r = some w.c ∧ w.c ≤ 1048576 * 1048576)
    (fun w => w.r.length) ⟨numN s.heirs s.members, M0, (planF s).c, j, [], (planF s).l⟩ ?_ rfl ⟨j0, j1, j2, j3, hMI, hN ▸ hm, rfl, k4, k3⟩ Ty.mixed (by kernel_rfl) ?_
  · simp (disch := omega) only [go_sem, seval, List.length_nil]
  rintro ⟨m, M, c, j, don, r⟩ ⟨j0, j1, j2, j3, hMI, hmN, hl, hwk, hc⟩
  simp only at j0 j1 j2 j3 hMI hmN hl hwk hc ⊢
  have hm2 : m < 2 ^ s.heirs.length := hN ▸ hmN
  have hlen : (planF s).l.length = don.length + r.length := by rw [hl]; simp
  simp (disch := omega) only [go_sem, seval]
  refine aIf.pos (by omega) ?_
  simp (disch := omega) only [go_sem, seval]
  have q0 := j0
  simp only [esC] at q0
  simp (disch := omega) only [go_sem, seval, q0]
  have gj : ∀ {i : Nat} {ob : AObj}, j[i]? = some ob → (h ++ j)[h.length + i]? = some ob := fun {i ob} e => by rw [hget_add]; exact e
  have gl : ∀ {i : Nat} {ob : AObj}, j[i]? = some ob → ∀ l', (h ++ j ++ l')[h.length + i]? = some ob := fun {i ob} e l' => by rw [List.append_assoc, hget_add, List.getElem?_append_left (List.getElem?_eq_some_iff.1 e).1]; exact e
  have hEBl : EB.length = s.heirs.length := by rw [hEB, List.length_map]
  have cEB : ∀ l', ACalls Try.prog Γ 25 [.sl (encI EB) own, .ptr (some (h.length + 2, 0))] (h ++ j ++ l') fun v h' => h' = h ++ j ++ l' ∧ v = .int .i64 (cntM m s.heirs.length) := fun l' => by
    have := count25_calls Γ M EB (h.length + 2) (h.length + 1) (h ++ j ++ l') (gl j2 l') (gl j1 l') (by omega)
    rw [hEB, cntL_all hO hMI, ← hEB] at this
    exact this.ofLoose (by simp only [looseL, loose, loose_I])
  have cL : ∀ (l : List Int), l.length ≤ 9223372036854775807 → hsF s.heirs none l = true → ACalls Try.prog Γ 25 [.sl (encI l) .free, .ptr (some (h.length + 2, 0))] (h ++ j) fun v h' => h' = h ++ j ∧ v = .int .i64 (amongF s.heirs m l) := fun l h1 h2 => by
    have := count25_calls Γ M l (h.length + 2) (h.length + 1) (h ++ j) (gj j2) (gj j1) h1
    rwa [cntL_among hMI l none h2] at this
  have hcm := cntM_le m s.heirs.length
  have hne := nd_get (s := s) (i := cntM m s.heirs.length) (by have := hO.n; omega)
  refine aCallF.intro cEB ?_
  simp (disch := omega) only [go_sem, seval, encI_len, hne]
  have hnd : nd s (cntM m s.heirs.length) = needF s m := rfl
  rw [hnd]
  have hsafe : safeF s m = true := by
    cases r with
    | nil =>
      rw [walkF] at hwk
      cases e : safeF s m with
      | true => rfl
      | false => rw [e] at hwk; simp at hwk
    | cons x r2 =>
      rw [walk_cons] at hwk
      cases e : safeF s m with
      | true => rfl
      | false => rw [e] at hwk; simp at hwk
  have hsf : ∀ c ∈ s.never, (amongF s.heirs m c : Int) < needF s m := fun c hc => by
    unfold safeF at hsafe
    exact of_decide_eq_true (List.all_eq_true.1 hsafe c hc)
  simp (disch := omega) only [go_sem, seval, q0, encNv_len]
  refine awp_loopL (β := Unit) s.never [1, 3, 4, 7, 10, 11, 12, 15, 16, 82, 83, 94, 95, 96] (fun don2 _ => [(1, .ptr (some (h.length, 0))), (3, .sl ((planF s).l.map encSg) .free), (4, .int .i64 c), (7, .ptr (some (h.length + 2, 0))), (10, .func 25 [] [.ptr (some (h.length + 2, 0))]), (11, .sl (encI EB) own), (12, .map (some (h.length + 3))), (15, .int .i64 don.length), (16, .int .i64 (needF s m)), (82, .int .i64 ((planF s).l.length + 1)), (83, .int .i64 don.length), (94, .sl (encNv s.never) .free), (95, .int .i64 s.never.length), (96, .int .i64 don2.length)]) (fun _ => h ++ j)
    (fun _ _ _ => True) () ?_ rfl trivial Ty.mixed (by kernel_rfl) ?_ ?_
  · simp (disch := omega) only [go_sem, seval, List.length_nil]
  · rintro don2 x r2 _ hd2 -
    have hlen2 : s.never.length = don2.length + 1 + r2.length := by rw [hd2]; simp; omega
    have e2 : (encNv s.never)[don2.length]? = some (.sl (encI x) .free) := by rw [hd2]; exact encNv_get don2 r2 x
    have hx : x ∈ s.never := by rw [hd2]; simp
    simp (disch := omega) only [go_sem, seval]
    refine aIf.pos (by omega) ?_
    simp (disch := omega) only [go_sem, seval, e2]
    refine ACalls.det (cL x (hs.c x hx) (hO.nev x hx)) ?_
    simp (disch := omega) only [go_sem, seval]
    have := hsf x hx
    refine aIf.neg (by omega) ?_
    simp (disch := omega) only [go_sem, seval]
    refine roundL_next () trivial ?_ rfl
    simp (disch := omega) only [go_sem, seval, List.length_append]
  rintro _ -
  simp (disch := omega) only [go_sem, seval]
  refine AWP.keep [1, 3, 4, 7, 10, 11, 12, 15, 16, 82, 83] (aCode_ok Ty.mixed _ _ _ _ (by kernel_rfl) ?_)
  simp (disch := omega) only [go_sem, seval, List.length_map]
  cases r with
  | nil =>
    rw [walkF, hsafe, Bool.true_and] at hwk
    simp only [List.length_nil, Nat.add_zero] at hlen
    refine aIf.pos (by omega) ?_
    cases hlv : livF s m with
    | false => rw [hlv] at hwk; simp at hwk
    | true =>
    rw [hlv, if_pos rfl] at hwk
    have hc0 : c = 0 := by simpa using hwk.symm
    subst hc0
    have hlv2 : needF s m ≤ amongF s.heirs m s.alive := by unfold livF at hlv; exact of_decide_eq_true hlv
    simp (disch := omega) only [go_sem, seval, q0]
    refine ACalls.det (cL s.alive hs.a hO.al) ?_
    simp (disch := omega) only [go_sem, seval]
    rw [decide_eq_true hlv2]
  | cons x r2 =>
    simp only [List.length_cons] at hlen
    refine aIf.neg (by omega) ?_
    rw [walk_cons, hsafe, if_neg (by simp)] at hwk
    cases hfw : fW s m x with
    | none => rw [hfw] at hwk; simp at hwk
    | some w =>
    rw [hfw] at hwk
    simp only at hwk
    obtain ⟨i, hi, hp, hI, ht, hk⟩ := fW_facts hO hm2 hfw
    have hxs : x ∈ stagesL s := stage_mem (m := m) fun e => by
      unfold fW at hfw
      rw [if_pos e] at hfw; cases hfw
    obtain ⟨hwt, hwc0, hwc1⟩ := wayL_facts hR hm2 (List.mem_filterMap.2 ⟨x, hxs, hfw⟩)
    have hwk2 : walkF s w.t r2 = some (c - w.c) := by
      cases e : walkF s w.t r2 with
      | none => rw [e] at hwk; cases hwk
      | some c' => rw [e] at hwk; simp only [Option.map_some, Option.some.injEq] at hwk; rw [← hwk]; congr 1; omega
    have hcc : 0 ≤ c - w.c := by
      rcases walkR_cases hR w.t r2 with ⟨e, _⟩ | ⟨c', e, _, h0, _⟩
      · rw [e] at hwk2; cases hwk2
      · rw [e] at hwk2; cases hwk2; exact h0
    have hmem : hrAt s i ∈ s.heirs := by rw [hrAt, List.getD_eq_getElem?_getD, List.getElem?_eq_getElem hi]; exact List.getElem_mem ..
    have hpr : mGet ⟨x.kind, x.person⟩ P = some w.c := by
      obtain ⟨h1, h2⟩ := hP _ hmem
      rw [hp]
      rcases hk with ⟨a, _, b⟩ | ⟨a, _, b⟩
      · rw [a, b]; exact h1
      · rw [a, b]; exact h2
    have hbit : (mGet x.person M).getD false = m.testBit i := by rw [hMI x.person, hI, decide_eq_true (by omega)]; simp
    have hkb : decide (x.kind = 1) = !m.testBit i := by
      rcases hk with ⟨a, b, _⟩ | ⟨a, b, _⟩
      · rw [a, b]; rfl
      · rw [a, b]; rfl
    have e1 : ((planF s).l.map encSg)[don.length]? = some (.agg [.int .i64 x.kind, .int .i64 x.person]) := by rw [hl]; simp [encSg]
    simp (disch := omega) only [go_sem, seval, e1, j3, look_pr, List.length_map]
    rw [hpr]
    simp (disch := omega) only [go_sem, seval, mLk, j2, j1, e1, look_mb, List.length_map]
    have hfalse : ((mGet x.person M).getD false == decide (x.kind = 1)) = false := by rw [hbit, hkb]; cases m.testBit i <;> rfl
    rw [hfalse]
    simp (disch := omega) only [go_sem, seval, j2, j1, e1, put_mb, List.length_map]
    have l1 : 1 < j.length := (List.getElem?_eq_some_iff.1 j1).1
    refine AWP.keep [1, 3, 4, 7, 10, 11, 12, 82, 83] (aCode_ok Ty.mixed _ _ _ _ (by kernel_rfl) ?_)
    simp (disch := omega) only [go_sem, seval]
    refine roundS_next (⟨w.t, mUpd x.person (decide (x.kind = 1)) M, c - w.c, j.set 1 (mbO (mUpd x.person (decide (x.kind = 1)) M)), don ++ [x], r2⟩ : SfC) (by simp only [List.length_cons]; omega) ⟨?_, ?_, ?_, ?_, ?_, hN ▸ hwt, ?_, hwk2, ?_⟩ ?_ rfl
    · simp only; rw [List.getElem?_set_ne (by decide)]; exact j0
    · simp only; rw [List.getElem?_set_self l1]
    · simp only; rw [List.getElem?_set_ne (by decide)]; exact j2
    · simp only; rw [List.getElem?_set_ne (by decide)]; exact j3
    · simp only
      rw [hkb, ht]
      exact hMI.step hI
    · simp only; rw [hl]; simp
    · simp only; omega
    · simp (disch := omega) only [go_sem, seval, List.length_append]
end Go.Proofs.Ytaepdkjfaeepmaa
