/- Texts joined: SucZc, SucZd. No conditions. -/
import Derived.Test.YtaepdkjfaeepmaaMrDI
/- The program's Check, Prove. No conditions. -/
set_option linter.unusedSimpArgs false
set_option linter.unusedVariables false
namespace Go.Proofs.Ytaepdkjfaeepmaa
open Go Go.Proofs Go.Abs

theorem right_hsOK {s : Es} (h : checkE s = 0) : HsOK s := by
  obtain ⟨h1, h2, h3⟩ := check0 h
  have h3' := h3
  simp only [rightE, Bool.and_eq_true, decide_eq_true_eq] at h3
  obtain ⟨⟨⟨⟨⟨⟨a1, a2⟩, a3⟩, a4⟩, a5⟩, a6⟩, a7⟩ := h3
  exact { srt := right_srt h3', h10 := h1, n := a2, mem := a4, al := a5, nev := List.all_eq_true.1 a7, v := h2 }
theorem prf_all (s : Es) : (allL (2 ^ s.heirs.length) (tabF (tabE s))).map (fun e => e.2.1) = prf s := by
  refine List.ext_getElem? fun i => ?_
  by_cases hi : i < 2 ^ s.heirs.length
  · have h2 := tabF_get (tab := tabE s) (i := i) (by rw [tabE_len]; exact hi)
    simp [allL, prf, hi, h2]
  · have : (tabE s)[i]? = none := List.getElem?_eq_none (by rw [tabE_len]; omega)
    simp [allL, prf, hi, this]
theorem pcheck_calls (Γ : Nat → Option (List AV)) (s : Es) (h : AH) (hs : EsL s) :
    ACalls Try.prog Γ 13 [encEs s] h fun v h' => h' = h ∧ v = .int .i64 (checkE s) := by
  have c1 := fun h => penter_calls Γ s h hs
  refine ACalls.drop ?_
  simp only [encEs, esC] at c1 ⊢
  refine acalls_code (rs := [.tmp 2]) Try.func13 rfl rfl rfl rfl Ty.mixed (by kernel_rfl) ?_
  simp (disch := omega) only [go_sem, seval]
  refine ACalls.then (c1 _) ?_
  rintro v _ ⟨rfl, hc, rfl, h1, h2, h3⟩
  simp (disch := omega) only [go_sem, seval]
theorem splice5 {cs hc : List AV} (h1 : cs.length = 5) (h2 : hc.length = 5) : splice cs 0 hc = hc := by
  rw [splice_eq (by omega)]
  simp [List.drop_eq_nil_of_le (show cs.length ≤ hc.length by omega)]
set_option maxHeartbeats 1000000 in
set_option maxRecDepth 100000 in
theorem pprove_calls (Γ : Nat → Option (List AV)) (s : Es) (h : AH) (hs : EsL s) :
    ACalls Try.prog Γ 16 [encEs s] h fun v h' => h' = h ∧ v = .tuple [.sl (encI (if checkE s = 0 then prf s else [])) .free, .int .i64 (checkE s)] := by
  have c1 := fun h => penter_calls Γ s h hs
  refine ACalls.dropL ?_
  simp only [encEs, esC] at c1 ⊢
  refine acalls_code (rs := [.tmp 2, .tmp 3]) Try.func16 rfl rfl rfl rfl Ty.mixed (by kernel_rfl) ?_
  simp (disch := omega) only [go_sem, seval]
  refine ACalls.then (c1 _) ?_
  rintro v _ ⟨rfl, hc, rfl, h1, h2, h3⟩
  simp (disch := omega) only [go_sem, seval]
  refine ⟨by rw [h1], List.all_eq_true.2 h2, by omega, ?_⟩
  rw [splice5 rfl h1]
  refine aIf.intro (fun h4 => ?_) (fun h4 => ?_) <;> simp (disch := omega) only [go_sem, seval]
  rotate_left
  · rw [if_neg h4]; rfl
  have hhc := h3 h4
  subst hhc
  obtain ⟨hl10, _, hr⟩ := check0 h4
  have hR := right_esR hs hr (by omega)
  have hO := right_hsOK h4
  have c2 := fun i h hi => pleast_calls Γ s i h hO hR hi
  refine ACalls.det (c2 _ _ (by simp)) ?_
  simp (disch := omega) only [go_sem, seval, List.length_map, allL_len]
  obtain ⟨N, hN⟩ : ∃ N, N = 2 ^ s.heirs.length := ⟨_, rfl⟩
  have hN1 : N ≤ 1024 := by rw [hN]; exact Nat.pow_le_pow_right (n := 2) (by decide) hl10
  have hall : (allL N (tabF (tabE s))).length = N := allL_len _ _
  rw [← hN]
  obtain ⟨L, hL⟩ : ∃ L, L = allL N (tabF (tabE s)) := ⟨_, rfl⟩
  have hpr : L.map (fun e => e.2.1) = prf s := by rw [hL, hN]; exact prf_all s
  rw [← hL] at hall ⊢
  refine awp_loopL (β := FlS) L [2, 15, 16, 17] (fun don w => [(2, .sl (encI w.l) w.own), (15, .sl (L.map fun e => .agg (encR e)) .free), (16, .int .i64 N), (17, .int .i64 don.length)]) (fun w => h ++ w.j)
    (fun don _ w => OwnAt h w.j w.l.length w.own ∧ w.l = don.map (fun e => e.2.1)) ⟨[], .full, [.row (esC s) 26, .row (hsC s) 61]⟩ ?_ rfl ⟨trivial, rfl⟩ Ty.mixed (by kernel_rfl) ?_ ?_
  · simp (disch := omega) only [go_sem, seval, List.length_nil, encI_nil]
  · rintro don x r ⟨l, own, j⟩ hd ⟨ho, hl2⟩
    simp only at ho hl2 ⊢
    have hlen : L.length = don.length + 1 + r.length := by rw [hd]; simp; omega
    have e1 : (L.map fun e => AV.agg (encR e))[don.length]? = some (.agg [.int .u64 x.1, .int .i64 x.2.1, .int .i64 x.2.2]) := by rw [hd]; simp [encR]
    have hll : l.length = don.length := by rw [hl2]; simp
    simp (disch := omega) only [go_sem, seval]
    refine aIf.pos (by omega) ?_
    simp (disch := omega) only [go_sem, seval, e1]
    refine aAp_sl (by rw [encI_len]; exact ho.app _) (rowsOK_I _) (rowsOK_I [x.2.1]) (by simp [encI_len]; omega) (by simp [encI_len]; omega) fun j' own' ho' hg => ?_
    rw [encI_snoc]
    simp (disch := omega) only [go_sem, seval]
    refine roundL_next (⟨l ++ [x.2.1], own', j'⟩ : FlS) ⟨by simpa [encI_len] using ho', by rw [hl2]; simp⟩ ?_ rfl
    simp (disch := omega) only [go_sem, seval, List.length_append]
  · rintro ⟨l, own, j⟩ ⟨ho, hl2⟩
    simp only at ho hl2 ⊢
    rw [hall]
    simp (disch := omega) only [go_sem, seval]
    refine AWP.keep [2] (aCode_ok Ty.mixed _ _ _ _ (by kernel_rfl) ?_)
    simp (disch := omega) only [go_sem, seval, loose_I, rb_I]
    rw [if_pos h4, h4, hl2, hpr]
end Go.Proofs.Ytaepdkjfaeepmaa

/- The program's proof. No conditions. -/
set_option linter.unusedSimpArgs false
set_option linter.unusedVariables false
namespace Go.Proofs.Ytaepdkjfaeepmaa
open Go Go.Proofs Go.Abs

def wOK (s : Es) (H : List Int) (m : Nat) (w : Wy) : Bool := !(decide (0 ≤ hv H w.t) && safeF s w.t && (decide (hv H m < 0) || decide (hv H w.t < hv H m - w.c)))
theorem all_wOK (s : Es) (H : List Int) (m : Nat) : (stagesL s).all (stOK s H m) = (wayL s m).all (wOK s H m) := by
  unfold wayL
  induction stagesL s with
  | nil => rfl
  | cons x r ih =>
    rw [List.all_cons, ih]
    by_cases h : (stepF s m x).1 < 0
    · have e : fW s m x = none := by unfold fW; rw [if_pos h]
      rw [List.filterMap_cons_none e]
      have : stOK s H m x = true := by unfold stOK; rw [decide_eq_false (by omega)]; rfl
      rw [this, Bool.true_and]
    · have e : fW s m x = some ⟨x, (stepF s m x).1.toNat, (stepF s m x).2⟩ := by unfold fW; rw [if_neg h]
      rw [List.filterMap_cons_some e, List.all_cons]
      congr 1
      unfold stOK wOK
      have hn : ((stepF s m x).1.toNat : Int) = (stepF s m x).1 := by omega
      simp only [hn]
      rw [decide_eq_true (show 0 ≤ (stepF s m x).1 by omega)]
      cases safeF s (stepF s m x).1 <;> simp
theorem holdsE_w (s : Es) (H : List Int) (m : Nat) : holdsE s H m = if safeF s m = false then decide (hv H m = -1) else if hv H m < -1 then false else if livF s m = true ∧ hv H m ≠ 0 then false else (wayL s m).all (wOK s H m) := by
  unfold holdsE
  rw [all_wOK]
  by_cases h1 : safeF s m = false
  · rw [if_pos (.inr h1), if_pos h1]
  · rw [if_neg h1]
    by_cases h2 : hv H m < -1
    · rw [if_pos (.inl h2), if_pos h2, decide_eq_false (by omega)]
    · rw [if_neg (by intro h; rcases h with h | h; exact h2 h; exact h1 h), if_neg h2]
def NLp (jj : AH) : Prop := ∀ ob ∈ jj, ∀ st pe li, ob ≠ .loop st pe li
theorem NLp.nil : NLp [] := fun _ h => by simp at h
theorem NLp.row {jj : AH} (h : NLp jj) (cs : List AV) (T : TypeId) : NLp (jj ++ [.row cs T]) := fun ob ho => by
  rcases List.mem_append.1 ho with ho | ho
  · exact h ob ho
  · rw [List.mem_singleton] at ho; subst ho; exact fun _ _ _ => by simp
theorem get_tail {B jj : AH} {x ob : AObj} {i : Nat} (h : NLp jj) (hi : i ≠ B.length) (e : (B ++ x :: jj)[i]? = some ob) : B[i]? = some ob ∨ ∀ st pe li, ob ≠ .loop st pe li := by
  rw [List.getElem?_append] at e
  split at e
  · exact .inl e
  · rename_i hge
    obtain ⟨k, hk⟩ : ∃ k, i - B.length = k + 1 := ⟨i - B.length - 1, by omega⟩
    rw [hk, List.getElem?_cons_succ] at e
    exact .inr (h ob (List.mem_of_getElem? e))
set_option maxHeartbeats 8000000 in
set_option maxRecDepth 100000 in
theorem pproof_calls (Γ : Nat → Option (List AV)) (s : Es) (ih : Nat) (H : List Int) (h0 : AH) (hs : HsOK s) (hR : EsR s) (hi : h0[ih]? = some (.row (hsC s) 61)) (hb : ∀ m, hv H m ≤ 9223372036854775807) (hHl : H.length ≤ 9223372036854775807) :
    ACalls Try.prog Γ 36 [.ptr (some (ih, 0)), .sl (encI H) .free] h0 fun v h' => h' = h0 ∧ v = .bool (decide (H.length = 2 ^ s.heirs.length) && allH s H) := by
  obtain ⟨N, hN⟩ : ∃ N, N = 2 ^ s.heirs.length := ⟨_, rfl⟩
  have hN1 : N ≤ 1024 := by rw [hN]; exact Nat.pow_le_pow_right (n := 2) (by decide) hs.h10
  have hil := (List.getElem?_eq_some_iff.1 hi).1
  have hshl := shl_i64 s.heirs.length hs.h10
  rw [← hN] at hshl
  have cS := fun (m : Nat) (hm : m < N) h hi => psafe_calls Γ s m ih h hs hi (hN ▸ hm)
  have cE := fun (m : Nat) (hm : m < N) h hi => penough_calls Γ s m s.alive ih h hs hi (hN ▸ hm) hs.al
  have hi3 : ∀ k, (h0 ++ k)[ih]? = some (.row (hsC s) 61) := fun k => by rw [List.getElem?_append_left hil]; exact hi
  have hi4 := hi3
  simp only [hsC] at hi4
  have hall : allH s H = (List.range N).all (holdsE s H) := by rw [allH, hN]
  rw [← hN, hall]
  refine ACalls.drop ?_
  refine acalls_code (rs := [.cell 4 4]) Try.func36 rfl rfl rfl rfl Ty.mixed (by kernel_rfl) ?_
  simp (disch := omega) only [go_sem, seval, hi4, encHs_len, encI_len]
  rw [hshl]
  refine aIf.intro (fun h1 => ?_) (fun h1 => ?_) <;> simp (disch := omega) only [go_sem, seval]
  rotate_left
  · rw [decide_eq_false (by omega)]; rfl
  have hHN : H.length = N := by omega
  rw [decide_eq_true hHN, Bool.true_and]
  simp (disch := omega) only [go_sem, seval, encI_len]
  refine awp_loopL (β := AH) H [2, 3, 4, 19, 20, 21] (fun don _ => [(2, .ptr (some (h0.length, 0))), (3, .ptr (some (h0.length + 1, 0))), (4, .ptr (some (h0.length + 2, 0))), (19, .sl (encI H) .free), (20, .int .i64 N), (21, .int .i64 don.length)])
    (fun j => h0 ++ (.row [.ptr (some (ih, 0))] 92 :: .row [.sl (encI H) .free] 23 :: .row [.bool false] 4 :: j)) (fun don _ _ => ∀ i, i < don.length → holdsE s H i = true) [] ?_ rfl (by simp) Ty.mixed (by kernel_rfl) ?_ ?_
  · rw [hHN]
    simp (disch := omega) only [go_sem, seval, List.length_nil]
  · rintro don x r j hd ho
    have hlen : H.length = don.length + 1 + r.length := by rw [hd]; simp; omega
    have e1 : (encI H)[don.length]? = some (.int .i64 x) := by rw [hd]; exact encI_at don r x
    have hx : hv H don.length = x := by unfold hv; rw [List.getD_eq_getElem?_getD, hd]; simp
    have hxb := hb don.length
    rw [hx] at hxb
    have hmN : don.length < N := by omega
    have hdef := holdsE_w s H don.length
    rw [hx] at hdef
    have hwr : IntKind.u64.wrap (don.length : Int) = (don.length : Int) := IntWalk.u64_in _ ⟨by omega, by omega⟩
    have k1 : ∀ (a b c : AObj) (R : AH), (h0 ++ a :: b :: c :: (j ++ R))[h0.length + (j.length + 1 + 1 + 1)]? = R[0]? := fun a b c R => by
      rw [hget_add, List.getElem?_cons_succ, List.getElem?_cons_succ, List.getElem?_cons_succ]; exact hget_zero j R
    have k2 : ∀ (a b c o : AObj) (R : AH), (h0 ++ a :: b :: c :: (j ++ R)).set (h0.length + (j.length + 1 + 1 + 1)) o = h0 ++ a :: b :: c :: (j ++ R.set 0 o) := fun a b c o R => by
      rw [hset_add, List.set_cons_succ, List.set_cons_succ, List.set_cons_succ, hset_zero]
    have bad : holdsE s H don.length = false → AV.bool false = .bool ((List.range N).all (holdsE s H)) := fun e => by
      rw [List.all_eq_false.2 ⟨don.length, List.mem_range.2 hmN, by rw [e]; simp⟩]
    have next : holdsE s H don.length = true → ∀ i, i < (don ++ [x]).length → holdsE s H i = true := fun e i hi => by
      by_cases e2 : i = don.length
      · rw [e2]; exact e
      · exact ho i (by simp at hi; omega)
    simp (disch := omega) only [go_sem, seval]
    refine aIf.pos (by omega) ?_
    simp (disch := omega) only [go_sem, seval, e1, k1, k2, hwr, List.length_append, List.length_cons]
    refine ACalls.det (cS don.length hmN _ (hi3 _)) ?_
    simp (disch := omega) only [go_sem, seval]
    cases hsf : safeF s don.length with
    | false =>
      rw [if_pos hsf] at hdef
      simp (disch := omega) only [go_sem, seval, k1, List.length_append, List.length_cons]
      refine aIf.intro (fun h2 => ?_) (fun h2 => ?_) <;> simp (disch := omega) only [go_sem, seval]
      · refine AWP.keep [2, 3, 4, 19, 20, 21] (aCode_ok Ty.mixed _ _ _ _ (by kernel_rfl) ?_)
        simp (disch := omega) only [go_sem, seval]
        refine roundL_next (j ++ [.row [.int .i64 x] 3]) ?_ ?_ rfl
        · exact next (by rw [hdef, decide_eq_true h2])
        · simp (disch := omega) only [go_sem, seval, List.length_append]
      · exact bad (by rw [hdef, decide_eq_false h2])
    | true =>
    rw [if_neg (by rw [hsf]; simp)] at hdef
    simp (disch := omega) only [go_sem, seval, k1, List.length_append, List.length_cons]
    refine aIf.intro (fun h2 => ?_) (fun h2 => ?_) <;> simp (disch := omega) only [go_sem, seval]
    · exact bad (by rw [hdef, if_pos h2])
    rw [if_neg h2] at hdef
    simp (disch := omega) only [go_sem, seval, hi4, k1]
    refine aCallF.intro (fun l => cE don.length hmN _ (by rw [List.append_assoc]; exact hi3 _)) ?_
    simp (disch := omega) only [go_sem, seval]
    have hen : enoughF s don.length s.alive = livF s don.length := rfl
    rw [hen]
    have hmN2 : don.length < 2 ^ s.heirs.length := hN ▸ hmN
    have main : (livF s don.length = true → x = 0) → holdsE s H don.length = (wayL s don.length).all (wOK s H don.length) := fun e => by
      rw [hdef, if_neg]
      rintro ⟨a, b⟩
      exact b (e a)
    cases hlf : livF s don.length <;> simp (disch := omega) only [go_sem, seval, k1]
    rotate_left
    refine aIf.intro (fun h3 => ?_) (fun h3 => ?_) <;> simp (disch := omega) only [go_sem, seval]
    rotate_left
    · exact bad (by rw [hdef, if_pos ⟨hlf, h3⟩])
    all_goals
      have main := main (by first | exact fun _ => h3 | (intro e; rw [hlf] at e; cases e))
      refine ACalls.detH (pways_calls Γ ih don.length _) ?_
      obtain ⟨a1, ha1⟩ : ∃ a1, a1 = h0.length + (j.length + 1 + 1 + 1) + 1 := ⟨_, rfl⟩
      obtain ⟨B, hB⟩ : ∃ B : AH, B = h0 ++ .row [.ptr (some (ih, 0))] 92 :: .row [.sl (encI H) .free] 23 :: .row [.bool false] 4 :: (j ++ [.row [.int .i64 x] 3, .row [.ptr (some (ih, 0))] 92, .row [.int .u64 don.length] 58]) := ⟨_, rfl⟩
      have hBe : h0 ++ .row [.ptr (some (ih, 0))] 92 :: .row [.sl (encI H) .free] 23 :: .row [.bool false] 4 :: (j ++ [.row [.int .i64 x] 3]) ++ [.row [.ptr (some (ih, 0))] 92, .row [.int .u64 don.length] 58] = B := by rw [hB]; simp
      have hBl : B.length = a1 + 2 := by rw [hB, ha1]; simp; omega
      have hle : (h0 ++ AObj.row [.ptr (some (ih, 0))] 92 :: .row [.sl (encI H) .free] 23 :: .row [.bool false] 4 :: (j ++ [.row [.int .i64 x] 3])).length = a1 := by rw [ha1]; simp; omega
      rw [hBe, hle]
      have b0 : ∀ X, (B ++ X)[h0.length]? = some (.row [.ptr (some (ih, 0))] 92) := fun X => by rw [hB]; simp
      have b1 : ∀ X, (B ++ X)[h0.length + 1]? = some (.row [.sl (encI H) .free] 23) := fun X => by rw [hB]; simp [List.append_assoc, hget_add]
      have b2 : ∀ X, (B ++ X)[h0.length + 2]? = some (.row [.bool false] 4) := fun X => by rw [hB]; simp [List.append_assoc, hget_add]
      have b3 : ∀ X, (B ++ X)[h0.length + (j.length + 1 + 1 + 1)]? = some (.row [.int .i64 x] 3) := fun X => by rw [hB]; simp [List.append_assoc, hget_add]
      have b4 : ∀ X, (B ++ X)[a1]? = some (.row [.ptr (some (ih, 0))] 92) := fun X => by
        rw [hB, ha1, Nat.add_assoc]; simp [List.append_assoc, hget_add]
      have b5 : ∀ X, (B ++ X)[a1 + 1]? = some (.row [.int .u64 don.length] 58) := fun X => by
        rw [hB, ha1, Nat.add_assoc, Nat.add_assoc]; simp [List.append_assoc, hget_add]
      have bi : ∀ X, (B ++ X)[ih]? = some (.row (hsC s) 61) := fun X => by rw [hB, List.append_assoc]; exact hi3 _
      have b2s : ∀ X, (B ++ X).set (h0.length + 2) (.row [.bool false] 4) = B ++ X := fun X => hset_same (b2 X)
      simp (disch := omega) only [go_sem, seval]
      refine AWP.keep [2, 3, 4, 6, 19, 20, 21, 53] ?_
      simp (disch := omega) only [go_sem, seval]
      refine awp_rangeFuncI rfl fun li hli => ?_
      rw [hBl]
      refine (ways1_calls Γ s don.length ih a1 (a1 + 1) (a1 + 2) hs hmN2 92 58
        (fun don2 hx => ∃ jj, NLp jj ∧ (∀ u ∈ don2, wOK s H don.length u = true) ∧ hx = B ++ (.loop .ready none li :: jj))
        (fun hx => ∃ jj u, NLp jj ∧ u ∈ wayL s don.length ∧ wOK s H don.length u = false ∧ hx = B ++ (.loop .done (some .ret) li :: jj)) ?_ ?_ ?_ _ ⟨[], NLp.nil, by simp, rfl⟩).mono ?_
      · rintro don2 hx ⟨jj, _, _, rfl⟩
        exact ⟨bi _, b4 _, b5 _⟩
      · rintro don2 hx cs ⟨jj, h1, h2, rfl⟩
        exact ⟨jj ++ [.row cs 50], h1.row _ _, h2, by simp⟩
      · rintro don2 w r2 hx hdw ⟨jj, hnl, hall2, rfl⟩
        have hwm : w ∈ wayL s don.length := by rw [hdw]; simp
        obtain ⟨hwt, hwc0, hwc1⟩ := wayL_facts hR hmN2 hwm
        have hwtN : w.t < N := hN.symm ▸ hwt
        have ew := hv_get (H := H) (i := w.t) (by omega)
        have bL : ∀ o X, (B ++ o :: X)[a1 + 2]? = some o := fun o X => by rw [← hBl]; simp
        have sL : ∀ o o' X, (B ++ o :: X).set (a1 + 2) o' = B ++ o' :: X := fun o o' X => by rw [← hBl]; simp
        have ap : ∀ o X Y, B ++ o :: X ++ Y = B ++ o :: (X ++ Y) := fun o X Y => by simp
        have bw : ∀ o Y, (B ++ o :: (jj ++ Y))[a1 + 2 + 1 + jj.length]? = Y[0]? := fun o Y => by
          rw [← hBl, Nat.add_assoc, hget_add, Nat.add_comm 1, List.getElem?_cons_succ, hget_zero]
        have sw : ∀ o Y o', (B ++ o :: (jj ++ Y)).set (a1 + 2 + 1 + jj.length) o' = B ++ o :: (jj ++ Y.set 0 o') := fun o Y o' => by
          rw [← hBl, Nat.add_assoc, hset_add, Nat.add_comm 1, List.set_cons_succ, hset_zero]
        have lw : ∀ o, (B ++ o :: jj).length = a1 + 2 + 1 + jj.length := fun o => by rw [List.length_append, hBl, List.length_cons]; omega
        refine ayield_W hli (bL _ _) rfl rfl Ty.mixed (by kernel_rfl) ?_
        rw [encWy]
        simp (disch := omega) only [go_sem, seval, lw, ap, bL, sL, bw, sw]
        refine aCode_ok Ty.mixed _ _ _ _ (by kernel_rfl) ?_
        have hwOK : wOK s H don.length w = !(decide (0 ≤ hv H w.t) && safeF s w.t && (decide (x < 0) || decide (hv H w.t < x - w.c))) := by unfold wOK; rw [hx]
        have go : wOK s H don.length w = true → ∃ jj', NLp jj' ∧ (∀ u ∈ don2 ++ [w], wOK s H don.length u = true) ∧ B ++ .loop .ready none li :: (jj ++ [.row [.int .i64 w.x.kind, .int .i64 w.x.person, .int .u64 w.t, .int .i64 w.c] 72]) = B ++ .loop .ready none li :: jj' := fun e => ⟨_, hnl.row _ _, fun u hu => by
          rcases List.mem_append.1 hu with hu | hu
          · exact hall2 u hu
          · rw [List.mem_singleton] at hu; subst hu; exact e, rfl⟩
        have stop : wOK s H don.length w = false → ∃ jj' u, NLp jj' ∧ u ∈ wayL s don.length ∧ wOK s H don.length u = false ∧ B ++ .loop .done (some .ret) li :: (jj ++ [.row [.int .i64 w.x.kind, .int .i64 w.x.person, .int .u64 w.t, .int .i64 w.c] 72]) = B ++ .loop .done (some .ret) li :: jj' := fun e => ⟨_, w, hnl.row _ _, hwm, e, rfl⟩
        simp (disch := omega) only [go_sem, seval, b1, bw, Int.toNat_natCast, ew, encI_len]
        refine aIf.intro (fun h5 => ?_) (fun h5 => ?_) <;> simp (disch := omega) only [go_sem, seval, b0, bw, b3]
        · refine ACalls.det (cS w.t hwtN _ (bi _)) ?_
          simp (disch := omega) only [go_sem, seval]
          cases hsw : safeF s w.t with
          | false =>
            simp (disch := omega) only [go_sem, seval]
            exact ⟨bL _ _, .inl (by rw [sL]; exact go (by rw [hwOK, hsw]; simp))⟩
          | true =>
          simp (disch := omega) only [go_sem, seval, b3, bw]
          refine aIf.intro (fun h6 => ?_) (fun h6 => ?_) <;> simp (disch := omega) only [go_sem, seval, b2, b2s, b3, bw]
          · refine ⟨bL _ _, ?_⟩
            rw [sL]
            exact .inr (stop (by rw [hwOK, hsw, decide_eq_true h5, decide_eq_true h6]; rfl))
          · refine aIf.intro (fun h7 => ?_) (fun h7 => ?_) <;> simp (disch := omega) only [go_sem, seval, b2, b2s]
            · refine ⟨bL _ _, ?_⟩
              rw [sL]
              exact .inr (stop (by rw [hwOK, hsw, decide_eq_true h5, decide_eq_true h7]; simp))
            · exact ⟨bL _ _, .inl (by rw [sL]; exact go (by rw [hwOK, hsw, decide_eq_true h5, decide_eq_false h6, decide_eq_false h7]; rfl))⟩
        · exact ⟨bL _ _, .inl (by rw [sL]; exact go (by rw [hwOK, decide_eq_false h5]; simp))⟩
      · rintro _ hx (⟨jj, hnl, hall2, rfl⟩ | ⟨jj, u, hnl, hu, hu2, rfl⟩)
        · have bL : ∀ o X, (B ++ o :: X)[a1 + 2]? = some o := fun o X => by rw [← hBl]; simp
          have sL : ∀ o o' X, (B ++ o :: X).set (a1 + 2) o' = B ++ o' :: X := fun o o' X => by rw [← hBl]; simp
          refine ⟨.ready, none, bL _ _, fun i ob hne e => get_tail hnl (by rw [hBl]; exact hne) e, by simp, ?_⟩
          simp (disch := omega) only [go_sem, seval, sL]
          refine AWP.keep [2, 3, 4, 19, 20, 21] (aCode_ok Ty.mixed _ _ _ _ (by kernel_rfl) ?_)
          simp (disch := omega) only [go_sem, seval]
          refine roundL_next (j ++ [.row [.int .i64 x] 3, .row [.ptr (some (ih, 0))] 92, .row [.int .u64 don.length] 58] ++ .dead :: jj) ?_ ?_ ?_
          · exact next (by rw [main, List.all_eq_true]; exact hall2)
          · simp (disch := omega) only [go_sem, seval, List.length_append]
          · rw [hB]; simp
        · have bL : ∀ o X, (B ++ o :: X)[a1 + 2]? = some o := fun o X => by rw [← hBl]; simp
          have sL : ∀ o o' X, (B ++ o :: X).set (a1 + 2) o' = B ++ o' :: X := fun o o' X => by rw [← hBl]; simp
          refine ⟨.done, some .ret, bL _ _, fun i ob hne e => get_tail hnl (by rw [hBl]; exact hne) e, by simp, afterLoop_some Ty.mixed (by kernel_rfl) ?_⟩
          simp (disch := omega) only [go_sem, seval, sL, b2]
          exact ⟨⟨_, by rw [hB, List.append_assoc]⟩, bad (by rw [main, List.all_eq_false]; exact ⟨u, hu, by rw [hu2]; simp⟩)⟩
  · rintro j ho
    rw [hHN] at ho ⊢
    simp (disch := omega) only [go_sem, seval]
    refine AWP.keep [4] (aCode_ok Ty.mixed _ _ _ _ (by kernel_rfl) ?_)
    simp (disch := omega) only [go_sem, seval]
    rw [List.all_eq_true.2 fun i hi => ho i (List.mem_range.1 hi)]
end Go.Proofs.Ytaepdkjfaeepmaa
