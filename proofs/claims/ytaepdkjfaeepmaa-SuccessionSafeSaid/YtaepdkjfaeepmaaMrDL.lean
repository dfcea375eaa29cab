/- Texts joined: SucZg. No conditions. -/
import Derived.Test.YtaepdkjfaeepmaaMrDK
/- The program's Accepts. No conditions. -/
set_option linter.unusedSimpArgs false
set_option linter.unusedVariables false
namespace Go.Proofs.Ytaepdkjfaeepmaa
open Go Go.Proofs Go.Abs

theorem stage_mem {s : Es} {m : Nat} {x : Sg} (h : ¬ (stepF s m x).1 < 0) : x ∈ stagesL s := by
  revert h
  unfold stepF
  split
  · simp
  · rename_i h0
    have hm : ∃ y ∈ s.heirs, y.person = x.person := by
      refine Classical.byContradiction fun hno => h0 ?_
      have := heirI_skip x.person s.heirs [] fun y hy e => hno ⟨y, hy, e⟩
      rw [List.append_nil, heirI, if_pos (by omega)] at this
      rw [this]; omega
    split
    · rename_i h1; intro _; exact mem_stagesL.2 ⟨.inl h1.1, hm⟩
    · split
      · rename_i h2; intro _; exact mem_stagesL.2 ⟨.inr h2.1, hm⟩
      · simp
/-- The way that a stage is. -/
theorem find_way (s : Es) (m : Nat) (x : Sg) : (wayL s m).find? (fun w => decide (w.x = x)) = fW s m x := by
  have key : ∀ l : List Sg, (l.filterMap (fW s m)).find? (fun w => decide (w.x = x)) = if x ∈ l then fW s m x else none := fun l => by
    induction l with
    | nil => rfl
    | cons y r ih =>
      have hfx : ∀ {y : Sg} {w : Wy}, fW s m y = some w → w.x = y := fun {y w} e => by
        unfold fW at e
        split at e
        · cases e
        · cases e; rfl
      cases e : fW s m y with
      | none =>
        rw [List.filterMap_cons_none e, ih]
        by_cases hxy : x = y
        · subst hxy; rw [e]; simp
        · simp [hxy]
      | some w =>
        rw [List.filterMap_cons_some e]
        by_cases hxy : x = y
        · subst hxy
          rw [List.find?_cons_of_pos (by simp [hfx e]), if_pos (List.mem_cons_self ..), e]
        · rw [List.find?_cons_of_neg (by rw [hfx e]; simp [Ne.symm hxy]), ih]
          simp [hxy]
  rw [wayL, key]
  split
  · rfl
  · rename_i hn
    unfold fW
    rw [if_pos]
    exact Decidable.byContradiction fun h => hn (stage_mem h)
theorem walk_cons (s : Es) (m : Nat) (x : Sg) (r : List Sg) : walkF s m (x :: r) = if safeF s m = false then none else match fW s m x with
    | none => none
    | some w => (walkF s w.t r).map fun c => w.c + c := by
  rw [walkF]
  unfold fW
  cases safeF s m
  · simp
  · by_cases h : (stepF s m x).1 < 0
    · simp [h]
    · simp [h]
structure AcS where
  m : Nat
  left : Int
  jj : AH
set_option maxHeartbeats 8000000 in
set_option maxRecDepth 100000 in
theorem paccepts_calls (Γ : Nat → Option (List AV)) (s : Es) (l : List Sg) (H : List Int) (h : AH) (hs : EsL s) (hl : l.length ≤ 100000) (hH : ∀ x ∈ H, x ≤ 9223372036854775807) (hHl : H.length ≤ 9223372036854775807) :
    ACalls Try.prog Γ 18 [encEs s, .sl (l.map encSg) .free, .sl (encI H) .free] h fun v h' => h' = h ∧ v = .tuple [.bool (accE s l H).1, .int .i64 (accE s l H).2] := by
  have c1 := fun h => penter_calls Γ s h hs
  refine ACalls.drop ?_
  simp only [encEs, esC] at c1 ⊢
  refine acalls_code (rs := [.tmp 6, .tmp 7]) Try.func18 rfl rfl rfl rfl Ty.mixed (by kernel_rfl) ?_
  simp (disch := omega) only [go_sem, seval]
  refine ACalls.then (c1 _) ?_
  rintro v _ ⟨rfl, hc, rfl, h1, h2, h3⟩
  simp (disch := omega) only [go_sem, seval]
  refine ⟨by rw [h1], List.all_eq_true.2 h2, by omega, ?_⟩
  rw [splice5 rfl h1]
  have hpl : accE s l H = if checkE s ≠ 0 then (false, checkE s) else if H.length ≠ 2 ^ s.heirs.length then (false, 0) else if allH s H = false then (false, 0) else if hv H (numN s.heirs s.members) = -1 then (decide (l.length = 0), 0) else (decide (walkR s (numN s.heirs s.members) l = hv H (numN s.heirs s.members)), 0) := rfl
  refine aIf.intro (fun h4 => ?_) (fun h4 => ?_) <;> simp (disch := omega) only [go_sem, seval]
  rotate_left
  · rw [hpl, if_pos h4]
  rw [if_neg (by simpa using h4)] at hpl
  have hhc := h3 h4
  subst hhc
  obtain ⟨hl10, _, hr⟩ := check0 h4
  have hR := right_esR hs hr (by omega)
  have hO := right_hsOK h4
  have hnum := (num_lt hO.srt hO.mem).1
  obtain ⟨N, hN⟩ : ∃ N, N = 2 ^ s.heirs.length := ⟨_, rfl⟩
  have hN1 : N ≤ 1024 := by rw [hN]; exact Nat.pow_le_pow_right (n := 2) (by decide) hl10
  have hb : ∀ m, hv H m ≤ 9223372036854775807 := fun m => by
    unfold hv
    rw [List.getD_eq_getElem?_getD]
    cases e : H[m]? with
    | none => simp
    | some y => exact hH y (List.mem_of_getElem? e)
  refine ACalls.det (pproof_calls Γ s (h.length + 1) H _ hO hR (by simp) hb hHl) ?_
  simp (disch := omega) only [go_sem, seval]
  cases hpr : decide (H.length = 2 ^ s.heirs.length) && allH s H with
  | false =>
    simp (disch := omega) only [go_sem, seval]
    rw [hpl]
    by_cases e : H.length = 2 ^ s.heirs.length
    · rw [decide_eq_true e, Bool.true_and] at hpr
      rw [if_neg (by simpa using e), if_pos hpr, h4]
    · rw [if_pos e, h4]
  | true =>
  rw [Bool.and_eq_true, decide_eq_true_eq] at hpr
  rw [if_neg (by simpa using hpr.1), if_neg (by rw [hpr.2]; simp)] at hpl
  obtain ⟨m0, hm0⟩ : ∃ m0, m0 = numN s.heirs s.members := ⟨_, rfl⟩
  rw [← hm0] at hpl hnum
  have em := hv_get (H := H) (i := m0) (by omega)
  have hge : -1 ≤ hv H m0 := by
    have h5 : allH s H = (List.range (2 ^ s.heirs.length)).all (holdsE s H) := rfl
    rw [hpr.2] at h5
    have h6 := List.all_eq_true.1 h5.symm m0 (List.mem_range.2 hnum)
    unfold holdsE at h6
    split at h6
    · rw [decide_eq_true_eq] at h6; omega
    · rename_i h7; exact Int.not_lt.1 fun e => h7 (.inl e)
  have hbm := hb m0
  simp only [hsC]
  rw [← hm0]
  simp (disch := omega) only [go_sem, seval, em, Int.toNat_natCast]
  refine aIf.intro (fun h5 => ?_) (fun h5 => ?_) <;> simp (disch := omega) only [go_sem, seval, List.length_map]
  · rw [hpl, if_pos h5]
    simp
  rw [if_neg h5] at hpl
  obtain ⟨HC, hHC⟩ : ∃ HC : List AV, HC = [.sl (encHs s.heirs) .free, .int .u64 m0, .int .u64 (numN s.heirs s.alive), .sl (encI s.needs) .free, .sl (encU (nevL s)) .free] := ⟨_, rfl⟩
  have hHC2 : HC = hsC s := by rw [hHC, hm0]; rfl
  rw [← hHC]
  refine awp_loopL (β := AcS) l [8, 9, 10, 41, 42, 43] (fun don w => [(8, .ptr (some (h.length + 1, 0))), (9, .int .u64 w.m), (10, .ptr (some (h.length + 2, 0))), (41, .sl (l.map encSg) .free), (42, .int .i64 l.length), (43, .int .i64 don.length)])
    (fun w => h ++ (.row (esC s) 26 :: .row HC 61 :: .row [.int .i64 w.left] 3 :: w.jj))
    (fun don r w => w.m < N ∧ hv H m0 - 1048576 * don.length ≤ w.left ∧ w.left ≤ hv H m0 ∧ walkF s m0 l = (walkF s w.m r).map fun c => (hv H m0 - w.left) + c) ⟨m0, hv H m0, []⟩ ?_ rfl ⟨hN ▸ hnum, by simp, Int.le_refl _, ?_⟩ Ty.mixed (by kernel_rfl) ?_ ?_
  · simp (disch := omega) only [go_sem, seval, List.length_nil, encSg]
  · simp only
    cases walkF s m0 l <;> simp
  · rintro don x r ⟨m, left, jj⟩ hd ⟨hm, hlo, hhi, hwk⟩
    simp only at hm hlo hhi hwk ⊢
    have hlen : l.length = don.length + 1 + r.length := by rw [hd]; simp; omega
    have e1 : (l.map encSg)[don.length]? = some (.agg [.int .i64 x.kind, .int .i64 x.person]) := by rw [hd]; simp [encSg]
    have hm2 : m < 2 ^ s.heirs.length := hN ▸ hm
    have k1 : ∀ (a b c : AObj) (R : AH), (h ++ a :: b :: c :: (jj ++ R))[h.length + (jj.length + 1 + 1 + 1)]? = R[0]? := fun a b c R => by
      rw [hget_add, List.getElem?_cons_succ, List.getElem?_cons_succ, List.getElem?_cons_succ]; exact hget_zero jj R
    have k2 : ∀ (a b c o : AObj) (R : AH), (h ++ a :: b :: c :: (jj ++ R)).set (h.length + (jj.length + 1 + 1 + 1)) o = h ++ a :: b :: c :: (jj ++ R.set 0 o) := fun a b c o R => by
      rw [hset_add, List.set_cons_succ, List.set_cons_succ, List.set_cons_succ, hset_zero]
    have k3 : ∀ (q : Nat) (a b c : AObj) (R : AH), (h ++ a :: b :: c :: (jj ++ R))[h.length + (jj.length + q + 1 + 1 + 1)]? = R[q]? := fun q a b c R => by
      rw [hget_add, List.getElem?_cons_succ, List.getElem?_cons_succ, List.getElem?_cons_succ, hget_add]
    have k4 : ∀ (q : Nat) (a b c o : AObj) (R : AH), (h ++ a :: b :: c :: (jj ++ R)).set (h.length + (jj.length + q + 1 + 1 + 1)) o = h ++ a :: b :: c :: (jj ++ R.set q o) := fun q a b c o R => by
      rw [hset_add, List.set_cons_succ, List.set_cons_succ, List.set_cons_succ, hset_add]
    simp (disch := omega) only [go_sem, seval]
    refine aIf.pos (by omega) ?_
    simp (disch := omega) only [go_sem, seval, e1, k1, k2, k3, k4, List.length_append, List.length_cons]
    refine ACalls.detH (pways_calls Γ (h.length + 1) m _) ?_
    obtain ⟨P, hP⟩ : ∃ P, P = h.length + (jj.length + 1 + 1 + 1) := ⟨_, rfl⟩
    obtain ⟨B, hB⟩ : ∃ B : Int → Nat → Bool → AH → AH, B = fun lf nx fd X => h ++ .row (esC s) 26 :: .row HC 61 :: .row [.int .i64 lf] 3 :: (jj ++ (.row [.int .i64 x.kind, .int .i64 x.person] 52 :: .row [.int .u64 nx] 58 :: .row [.bool fd] 4 :: .row [.ptr (some (h.length + 1, 0))] 92 :: .row [.int .u64 m] 58 :: X)) := ⟨_, rfl⟩
    have hBl : ∀ lf nx fd X, (B lf nx fd X).length = P + 5 + X.length := fun lf nx fd X => by rw [hB, hP]; simp; omega
    have gH : ∀ lf nx fd X, (B lf nx fd X)[h.length + 1]? = some (.row HC 61) := fun lf nx fd X => by rw [hB]; simp [hget_add]
    have gl : ∀ lf nx fd X, (B lf nx fd X)[h.length + 2]? = some (.row [.int .i64 lf] 3) := fun lf nx fd X => by rw [hB]; simp [hget_add]
    have gx : ∀ lf nx fd X, (B lf nx fd X)[P]? = some (.row [.int .i64 x.kind, .int .i64 x.person] 52) := fun lf nx fd X => by rw [hB, hP]; simp only; rw [k1]; rfl
    have gn : ∀ lf nx fd X, (B lf nx fd X)[P + 1]? = some (.row [.int .u64 nx] 58) := fun lf nx fd X => by rw [hB, hP, show h.length + (jj.length + 1 + 1 + 1) + 1 = h.length + (jj.length + 1 + 1 + 1 + 1) by omega]; exact k3 1 _ _ _ _
    have gf : ∀ lf nx fd X, (B lf nx fd X)[P + 2]? = some (.row [.bool fd] 4) := fun lf nx fd X => by rw [hB, hP, show h.length + (jj.length + 1 + 1 + 1) + 2 = h.length + (jj.length + 2 + 1 + 1 + 1) by omega]; exact k3 2 _ _ _ _
    have ga : ∀ lf nx fd X, (B lf nx fd X)[P + 3]? = some (.row [.ptr (some (h.length + 1, 0))] 92) := fun lf nx fd X => by rw [hB, hP, show h.length + (jj.length + 1 + 1 + 1) + 3 = h.length + (jj.length + 3 + 1 + 1 + 1) by omega]; exact k3 3 _ _ _ _
    have gb : ∀ lf nx fd X, (B lf nx fd X)[P + 4]? = some (.row [.int .u64 m] 58) := fun lf nx fd X => by rw [hB, hP, show h.length + (jj.length + 1 + 1 + 1) + 4 = h.length + (jj.length + 4 + 1 + 1 + 1) by omega]; exact k3 4 _ _ _ _
    have gX : ∀ lf nx fd X i, (B lf nx fd X)[P + 5 + i]? = X[i]? := fun lf nx fd X i => by
      rw [hB, hP, show h.length + (jj.length + 1 + 1 + 1) + 5 + i = h.length + (jj.length + (i + 5) + 1 + 1 + 1) by omega]
      simp only
      rw [k3]; rfl
    have sl : ∀ lf nx fd X lf', (B lf nx fd X).set (h.length + 2) (.row [.int .i64 lf'] 3) = B lf' nx fd X := fun lf nx fd X lf' => by rw [hB]; simp only; rw [hset_add]; rfl
    have sn : ∀ lf nx fd X (nx' : Nat), (B lf nx fd X).set (P + 1) (.row [.int .u64 nx'] 58) = B lf nx' fd X := fun lf nx fd X nx' => by rw [hB, hP, show h.length + (jj.length + 1 + 1 + 1) + 1 = h.length + (jj.length + 1 + 1 + 1 + 1) by omega]; exact k4 1 _ _ _ _ _
    have sf : ∀ lf nx fd X fd', (B lf nx fd X).set (P + 2) (.row [.bool fd'] 4) = B lf nx fd' X := fun lf nx fd X fd' => by rw [hB, hP, show h.length + (jj.length + 1 + 1 + 1) + 2 = h.length + (jj.length + 2 + 1 + 1 + 1) by omega]; exact k4 2 _ _ _ _ _
    have sX : ∀ lf nx fd X i o, (B lf nx fd X).set (P + 5 + i) o = B lf nx fd (X.set i o) := fun lf nx fd X i o => by
      rw [hB, hP, show h.length + (jj.length + 1 + 1 + 1) + 5 + i = h.length + (jj.length + (i + 5) + 1 + 1 + 1) by omega]
      exact k4 _ _ _ _ _ _
    have ap : ∀ lf nx fd X Y, B lf nx fd X ++ Y = B lf nx fd (X ++ Y) := fun lf nx fd X Y => by rw [hB]; simp
    have hB0 : h ++ .row (esC s) 26 :: .row HC 61 :: .row [.int .i64 left] 3 :: (jj ++ [.row [.int .i64 x.kind, .int .i64 x.person] 52, .row [.int .u64 m] 58, .row [.bool false] 4]) ++ [.row [.ptr (some (h.length + 1, 0))] 92, .row [.int .u64 m] 58] = B left m false [] := by rw [hB]; simp
    have hl3 : (h ++ AObj.row (esC s) 26 :: .row HC 61 :: .row [.int .i64 left] 3 :: (jj ++ [.row [.int .i64 x.kind, .int .i64 x.person] 52, .row [.int .u64 m] 58, .row [.bool false] 4])).length = P + 3 := by rw [hP]; simp; omega
    rw [hB0, hl3]
    have hPP : h.length + (jj.length + 1 + 1 + 1) = P := hP.symm
    have hP1 : h.length + (jj.length + 1 + 1 + 1 + 1) = P + 1 := by omega
    have hP2 : h.length + (jj.length + 2 + 1 + 1 + 1) = P + 2 := by omega
    simp (disch := omega) only [go_sem, seval]
    refine AWP.keep [8, 9, 10, 12, 13, 14, 41, 42, 43, 49] ?_
    simp (disch := omega) only [go_sem, seval]
    refine awp_rangeFuncI rfl fun li hli => ?_
    have hBL : ∀ lf nx fd, (B lf nx fd []).length = P + 5 := fun lf nx fd => by rw [hBl]; rfl
    rw [hBL]
    have gL : ∀ lf nx fd o X, (B lf nx fd (o :: X))[P + 5]? = some o := fun lf nx fd o X => gX lf nx fd (o :: X) 0
    have sL : ∀ lf nx fd o X o', (B lf nx fd (o :: X)).set (P + 5) o' = B lf nx fd (o' :: X) := fun lf nx fd o X o' => sX lf nx fd (o :: X) 0 o'
    have gtl : ∀ lf nx fd o q (i : Nat) (ob : AObj), NLp q → i ≠ P + 5 → (B lf nx fd (o :: q))[i]? = some ob → (B left m false [])[i]? = some ob ∨ ∀ st pe li, ob ≠ .loop st pe li := fun lf nx fd o q i ob hq hi e => by
      by_cases h1 : i < P + 5
      · by_cases h2 : i = h.length + 2
        · subst h2; rw [gl] at e; cases e; exact .inr fun _ _ _ => by simp
        · by_cases h3 : i = P + 1
          · subst h3; rw [gn] at e; cases e; exact .inr fun _ _ _ => by simp
          · by_cases h4 : i = P + 2
            · subst h4; rw [gf] at e; cases e; exact .inr fun _ _ _ => by simp
            · left
              rw [← e, ← sl lf m false [] left, List.getElem?_set_ne (Ne.symm h2), ← sn lf nx false [] m, List.getElem?_set_ne (Ne.symm h3), ← sf lf nx fd [] false, List.getElem?_set_ne (Ne.symm h4)]
              have := ap lf nx fd [] (o :: q)
              rw [List.nil_append] at this
              rw [← this, List.getElem?_append_left (by rw [hBL]; exact h1)]
      · obtain ⟨k, hk⟩ : ∃ k, i = P + 5 + (k + 1) := ⟨i - (P + 5) - 1, by omega⟩
        rw [hk, gX, List.getElem?_cons_succ] at e
        exact .inr (hq ob (List.mem_of_getElem? e))
    refine (ways1_calls Γ s m (h.length + 1) (P + 3) (P + 3 + 1) (P + 5) hO hm2 92 58
      (fun don2 hx => ∃ q, NLp q ∧ (∀ u ∈ don2, u.x ≠ x) ∧ hx = B left m false (.loop .ready none li :: q))
      (fun hx => ∃ q w, NLp q ∧ fW s m x = some w ∧ hx = B (left - w.c) w.t true (.loop .done (some (.exit 2)) li :: q)) ?_ ?_ ?_ _ ⟨[], NLp.nil, by simp, by rw [ap]; rfl⟩).mono ?_
    · rintro don2 hx ⟨q, _, _, rfl⟩
      exact ⟨by rw [gH, hHC2], ga _ _ _ _, gb _ _ _ _⟩
    · rintro don2 hx cs ⟨q, q1, q2, rfl⟩
      exact ⟨q ++ [.row cs 50], q1.row _ _, q2, by rw [ap]; rfl⟩
    · rintro don2 w r2 hx hdw ⟨q, hnl, hno, rfl⟩
      have hwm : w ∈ wayL s m := by rw [hdw]; simp
      obtain ⟨hwt, hwc0, hwc1⟩ := wayL_facts hR hm2 hwm
      refine ayield_W hli (gL _ _ _ _ _) rfl rfl Ty.mixed (by kernel_rfl) ?_
      rw [encWy]
      have gw : ∀ lf nx fd o cs, (B lf nx fd (o :: (q ++ [cs])))[P + 5 + (q.length + 1)]? = some cs := fun lf nx fd o cs => by rw [gX, List.getElem?_cons_succ]; exact hget_zero q [cs]
      have sw : ∀ lf nx fd o cs cs', (B lf nx fd (o :: (q ++ [cs]))).set (P + 5 + (q.length + 1)) cs' = B lf nx fd (o :: (q ++ [cs'])) := fun lf nx fd o cs cs' => by rw [sX, List.set_cons_succ, hset_zero]; rfl
      simp (disch := omega) only [go_sem, seval, ap, gL, sL, hBl, List.length_cons, gw, sw]
      refine awp_block ?_
      refine awp_seq (aCode_ok Ty.mixed _ _ _ _ (by kernel_rfl) ?_)
      simp (disch := omega) only [go_sem, seval, gw, gx, hPP]
      refine awp_cond rfl (fun h7 => ?_) (fun h7 => ?_)
      · have hwx : w.x = x := by
          rw [Bool.and_eq_true, decide_eq_true_eq, decide_eq_true_eq] at h7
          obtain ⟨⟨_, _⟩, _, _⟩ := w
          obtain ⟨_, _⟩ := x
          simp only at h7
          rw [h7.1, h7.2]
        have hfw : fW s m x = some w := by
          obtain ⟨y, _, hy⟩ := List.mem_filterMap.1 hwm
          have : w.x = y := by
            unfold fW at hy
            split at hy
            · cases hy
            · cases hy; rfl
          rw [← hwx, this]; exact hy
        obtain ⟨iw, hiw⟩ : ∃ iw, iw = P + 5 + (q.length + 1) := ⟨_, rfl⟩
        obtain ⟨X, hX⟩ : ∃ X : AH, X = .loop .busy none li :: (q ++ [.row [.int .i64 w.x.kind, .int .i64 w.x.person, .int .u64 w.t, .int .i64 w.c] 72]) := ⟨_, rfl⟩
        have gw2 : ∀ lf nx fd, (B lf nx fd X)[iw]? = some (.row [.int .i64 w.x.kind, .int .i64 w.x.person, .int .u64 w.t, .int .i64 w.c] 72) := fun lf nx fd => by rw [hX, hiw]; exact gw _ _ _ _ _
        rw [← hX, ← hiw]
        obtain ⟨val, hval⟩ : ∃ val : Nat → AV, val = fun q => [.ptr (some (iw, 2)), .int .u64 w.t, .int .i64 left, .ptr (some (iw, 3)), .int .i64 w.c, .int .i64 (left - w.c)].getD q .top := ⟨_, rfl⟩
        obtain ⟨Iv, hIv⟩ : ∃ Iv : List Nat → Tm → AH → Prop, Iv = fun done σ h' => lk σ 10 = .ptr (some (h.length + 2, 0)) ∧ lk σ 13 = .ptr (some (P + 1, 0)) ∧ lk σ 14 = .ptr (some (P + 2, 0)) ∧ lk σ 15 = .ptr (some (iw, 0)) ∧ (∀ i ∈ done, i < 6 → lk σ (55 + i) = val i) ∧ h' = B (if 7 ∈ done then left - w.c else left) (if 6 ∈ done then w.t else m) (if 8 ∈ done then true else false) X := ⟨_, rfl⟩
        have vals : val 0 = .ptr (some (iw, 2)) ∧ val 1 = .int .u64 w.t ∧ val 2 = .int .i64 left ∧ val 3 = .ptr (some (iw, 3)) ∧ val 4 = .int .i64 w.c ∧ val 5 = .int .i64 (left - w.c) := by rw [hval]; exact ⟨rfl, rfl, rfl, rfl, rfl, rfl⟩
        clear hval
        have stepv : ∀ (i : Nat) (done : List Nat) (σ : Tm) (h' : AH) (u : AV), i < 6 → u = val i → Iv done σ h' → i ∉ done → Iv (i :: done) (put (some (55 + i)) u σ) h' := fun i done σ h' u hi hu hI hni => by
          subst hu
          rw [hIv] at hI ⊢
          obtain ⟨a1, a2, a3, a4, a5, a6⟩ := hI
          refine ⟨by rw [lk_put_ne (by omega)]; exact a1, by rw [lk_put_ne (by omega)]; exact a2, by rw [lk_put_ne (by omega)]; exact a3, by rw [lk_put_ne (by omega)]; exact a4, fun k hk h1 => ?_, ?_⟩
          · rcases List.mem_cons.1 hk with rfl | hk
            · rw [lk_put_self]
            · rw [lk_put_ne (d := 55 + i) (t := 55 + k) (fun e => hni ((show k = i by omega) ▸ hk))]; exact a5 k hk h1
          · have e6 : (6 ∈ i :: done) ↔ 6 ∈ done := by simp; omega
            have e7 : (7 ∈ i :: done) ↔ 7 ∈ done := by simp; omega
            have e8 : (8 ∈ i :: done) ↔ 8 ∈ done := by simp; omega
            simp only [e6, e7, e8]
            exact a6
        refine awp_seq (awp_any_inv [[], [0], [], [], [3], [2, 4], [1], [5, 6], [7]] Iv Ty.mixed (by kernel_rfl) (by kernel_rfl) (by kernel_rfl) ?_ ?_ ?_)
        · rw [hIv]
          refine ⟨rfl, congrArg (fun i => AV.ptr (some (i, 0))) hP1, congrArg (fun i => AV.ptr (some (i, 0))) hP2, rfl, by simp, by simp⟩
        · intro i o ho done σ h' hI hd hcl hni C hC
          have hI0 := hI
          rw [hIv] at hI
          obtain ⟨a1, a2, a3, a4, a5, a6⟩ := hI
          rcases i with _ | _ | _ | _ | _ | _ | _ | _ | _ | i
          all_goals simp only [List.getElem?_toArray, List.getElem?_cons_zero, List.getElem?_cons_succ, Option.some.injEq, List.getElem?_nil, reduceCtorEq, Nat.zero_add, Nat.reduceAdd] at ho
          all_goals subst ho
          all_goals rw [aOper_plain]
          · simp (disch := omega) only [go_sem, seval, a4]
            exact hC _ _ (stepv 0 done σ h' _ (by decide) vals.1.symm hI0 hni)
          · have v1 : lk σ 55 = _ := (a5 0 (hd 0 (by decide)) (by decide)).trans vals.1
            simp (disch := omega) only [go_sem, seval, v1, a6, gw2]
            exact hC _ _ (stepv 1 done σ _ _ (by decide) vals.2.1.symm (a6 ▸ hI0) hni)
          · have h7 : 7 ∉ done := fun e => hni (hcl 5 (hcl 7 e 5 (by decide)) 2 (by decide))
            rw [if_neg h7] at a6
            simp (disch := omega) only [go_sem, seval, a1, a6, gl]
            exact hC _ _ (stepv 2 done σ _ _ (by decide) vals.2.2.1.symm (a6 ▸ hI0) hni)
          · simp (disch := omega) only [go_sem, seval, a4]
            exact hC _ _ (stepv 3 done σ h' _ (by decide) vals.2.2.2.1.symm hI0 hni)
          · have v1 : lk σ 58 = _ := (a5 3 (hd 3 (by decide)) (by decide)).trans vals.2.2.2.1
            simp (disch := omega) only [go_sem, seval, v1, a6, gw2]
            exact hC _ _ (stepv 4 done σ _ _ (by decide) vals.2.2.2.2.1.symm (a6 ▸ hI0) hni)
          · have v1 : lk σ 57 = _ := (a5 2 (hd 2 (by decide)) (by decide)).trans vals.2.2.1
            have v2 : lk σ 59 = _ := (a5 4 (hd 4 (by decide)) (by decide)).trans vals.2.2.2.2.1
            simp (disch := omega) only [go_sem, seval, v1, v2]
            exact hC _ _ (stepv 5 done σ h' _ (by decide) vals.2.2.2.2.2.symm hI0 hni)
          · have v1 : lk σ 56 = _ := (a5 1 (hd 1 (by decide)) (by decide)).trans vals.2.1
            simp (disch := omega) only [go_sem, seval, a2, v1, a6, gn, sn]
            refine hC _ _ ?_
            rw [hIv]
            refine ⟨a1, a2, a3, a4, fun k hk h1 => a5 k (List.mem_of_ne_of_mem (by omega) hk) h1, ?_⟩
            simp
          · have v1 : lk σ 60 = _ := (a5 5 (hd 5 (by decide)) (by decide)).trans vals.2.2.2.2.2
            simp (disch := omega) only [go_sem, seval, a1, v1, a6, gl, sl]
            refine hC _ _ ?_
            rw [hIv]
            refine ⟨a1, a2, a3, a4, fun k hk h1 => a5 k (List.mem_of_ne_of_mem (by omega) hk) h1, ?_⟩
            simp
          · simp (disch := omega) only [go_sem, seval, a3, a6, gf, sf]
            refine hC _ _ ?_
            rw [hIv]
            refine ⟨a1, a2, a3, a4, fun k hk h1 => a5 k (List.mem_of_ne_of_mem (by omega) hk) h1, ?_⟩
            simp
        · intro done σ h' hall hI
          rw [hIv] at hI
          obtain ⟨a1, a2, a3, a4, a5, a6⟩ := hI
          rw [if_pos (hall 6 (by decide)), if_pos (hall 7 (by decide)), if_pos (hall 8 (by decide)), hX] at a6
          subst a6
          refine aCode_ok Ty.mixed _ _ _ _ (by kernel_rfl) ?_
          simp (disch := omega) only [go_sem, seval, gL, sL]
          exact .inr ⟨_, w, hnl.row _ _, hfw, rfl⟩
      · refine aCode_ok Ty.mixed _ _ _ _ (by kernel_rfl) ?_
        simp (disch := omega) only [go_sem, seval, gL, sL]
        refine .inl ⟨_, hnl.row _ _, fun u hu => ?_, rfl⟩
        rcases List.mem_append.1 hu with hu | hu
        · exact hno u hu
        · rw [List.mem_singleton] at hu
          subst hu
          rintro rfl
          simp at h7
    · rintro _ hx (⟨q, hnl, hno, rfl⟩ | ⟨q, w, hnl, hfw, rfl⟩)
      · have hf : fW s m x = none := by
          rw [← find_way, List.find?_eq_none]
          exact fun u hu => by simpa using hno u hu
        refine ⟨.ready, none, gL _ _ _ _ _, fun i ob hne e => gtl _ _ _ _ _ i ob hnl hne e, by simp, ?_⟩
        simp (disch := omega) only [go_sem, seval, sL]
        refine AWP.keep [8, 9, 10, 12, 13, 14, 41, 42, 43] (aCode_ok Ty.mixed _ _ _ _ (by kernel_rfl) ?_)
        simp (disch := omega) only [go_sem, seval, hP2, hPP, hP1, gf, gn]
        have hw0 : walkF s m (x :: r) = none := by rw [walk_cons, hf]; simp
        have hwr : walkR s m0 l = -1 := by rw [walkR, hwk, hw0]; rfl
        rw [hpl, hwr]
        refine ⟨by rw [hB]; exact ⟨_, rfl⟩, ?_⟩
        rw [decide_eq_false (fun e => h5 e.symm)]
      · refine ⟨.done, some (.exit 2), gL _ _ _ _ _, fun i ob hne e => gtl _ _ _ _ _ i ob hnl hne e, by simp, afterLoop_some Ty.mixed (by kernel_rfl) ?_⟩
        simp (disch := omega) only [go_sem, seval, sL]
        refine AWP.keep [8, 9, 10, 12, 13, 14, 41, 42, 43] (aCode_ok Ty.mixed _ _ _ _ (by kernel_rfl) ?_)
        simp (disch := omega) only [go_sem, seval, hP2, hPP, hP1, gf, gn]
        have hfx : w ∈ wayL s m := List.mem_of_find?_eq_some ((find_way s m x).trans hfw)
        obtain ⟨hwt, hwc0, hwc1⟩ := wayL_facts hR hm2 hfx
        refine ACalls.det (psafe_calls Γ s m (h.length + 1) _ hO (by rw [gH, hHC2]) hm2) ?_
        simp (disch := omega) only [go_sem, seval]
        have hw0 : walkF s m (x :: r) = if safeF s m = false then none else (walkF s w.t r).map fun c => w.c + c := by rw [walk_cons, hfw]
        cases hsf : safeF s m with
        | false =>
          rw [hsf, if_pos rfl] at hw0
          simp (disch := omega) only [go_sem, seval]
          have hwr : walkR s m0 l = -1 := by rw [walkR, hwk, hw0]; rfl
          rw [hpl, hwr]
          refine ⟨by rw [hB]; exact ⟨_, rfl⟩, ?_⟩
          rw [decide_eq_false (fun e => h5 e.symm)]
        | true =>
          rw [hsf, if_neg (by simp)] at hw0
          simp (disch := omega) only [go_sem, seval, hP2, hPP, hP1, gf, gn]
          refine AWP.keep [8, 9, 10, 41, 42, 43] (aCode_ok Ty.mixed _ _ _ _ (by kernel_rfl) ?_)
          simp (disch := omega) only [go_sem, seval]
          refine roundL_next (⟨w.t, left - w.c, jj ++ (.row [.int .i64 x.kind, .int .i64 x.person] 52 :: .row [.int .u64 w.t] 58 :: .row [.bool true] 4 :: .row [.ptr (some (h.length + 1, 0))] 92 :: .row [.int .u64 m] 58 :: .dead :: q)⟩ : AcS) ⟨hN ▸ hwt, by simp only [List.length_append, List.length_singleton]; omega, by simp only; omega, ?_⟩ ?_ (by rw [hB])
          · simp only
            rw [hwk, hw0]
            cases walkF s w.t r <;> simp <;> omega
          · simp (disch := omega) only [go_sem, seval, List.length_append, List.length_singleton]
  · rintro ⟨m, left, jj⟩ ⟨hm, hlo, hhi, hwk⟩
    simp only at hm hlo hhi hwk ⊢
    have hm2 : m < 2 ^ s.heirs.length := hN ▸ hm
    have gi : (h ++ .row (esC s) 26 :: .row HC 61 :: .row [.int .i64 left] 3 :: jj)[h.length + 1]? = some (.row (hsC s) 61) := by rw [← hHC2]; simp [hget_add]
    have hen : enoughF s m s.alive = livF s m := rfl
    rw [walkF] at hwk
    have hw : ∀ c, walkF s m0 l = c → accE s l H = (decide (c.getD (-1) = hv H m0), 0) := fun c e => by rw [hpl, walkR, e]
    simp (disch := omega) only [go_sem, seval]
    refine AWP.keep [8, 9, 10] (aCode_ok Ty.mixed _ _ _ _ (by kernel_rfl) ?_)
    simp (disch := omega) only [go_sem, seval]
    refine aIf.intro (fun h6 => ?_) (fun h6 => ?_) <;> simp (disch := omega) only [go_sem, seval]
    rotate_left
    · cases hsl : safeF s m && livF s m with
      | true =>
        rw [hsl] at hwk
        rw [hw _ hwk]
        simp; omega
      | false =>
        rw [hsl] at hwk
        rw [hw _ hwk]
        simp; omega
    refine ACalls.det (psafe_calls Γ s m (h.length + 1) _ hO gi hm2) ?_
    simp (disch := omega) only [go_sem, seval]
    cases hsf : safeF s m with
    | false =>
      rw [hsf] at hwk
      simp (disch := omega) only [go_sem, seval]
      rw [hw _ hwk]
      simp; omega
    | true =>
    rw [hsf] at hwk
    have ga : HC[2]? = some (.int .u64 (numN s.heirs s.alive)) := by rw [hHC]; rfl
    have gd : HC.drop 2 = .int .u64 (numN s.heirs s.alive) :: HC.drop 3 := by rw [hHC]; rfl
    simp (disch := omega) only [go_sem, seval, gd]
    refine ACalls.det (penough_calls Γ s m s.alive (h.length + 1) _ hO gi hm2 hO.al) ?_
    simp (disch := omega) only [go_sem, seval]
    rw [hen]
    cases hlf : livF s m with
    | false =>
      rw [hlf] at hwk
      rw [hw _ hwk]
      simp; omega
    | true =>
      rw [hlf] at hwk
      rw [hw _ hwk]
      simp; omega
end Go.Proofs.Ytaepdkjfaeepmaa
