/- Texts joined: SucX, SucY. No conditions. -/
import Derived.Test.YtaepdkjfaeepmaaMrDG
/- The program's queue as a heap: Push, Pop, up, down. No conditions. -/
set_option linter.unusedSimpArgs false
set_option linter.unusedVariables false
namespace Go.Proofs.Ytaepdkjfaeepmaa
open Go Go.Proofs Go.Abs

/-- A queue: its cell, and the array that holds it. -/
def QH (h : AH) (iq qa : Nat) (Q : List Qe) : Prop :=
  ∃ v, h[iq]? = some (.row [v] 94) ∧ iq ≠ qa ∧ ((v = .sl [] .full ∧ Q = []) ∨ ∃ c pad, v = .ms qa 0 Q.length c 3 ∧ h[qa]? = some (.row (cR encR Q pad) 67) ∧ c * 3 = Q.length * 3 + pad.length ∧ ∀ a ∈ pad, a.isAgg = false)
/-- What a turn of the queue leaves of the heap. -/
structure QStep (iq qa : Nat) (h : AH) (qa' : Nat) (h' : AH) : Prop where
  len : h.length ≤ h'.length
  same : ∀ i, i < h.length → i ≠ iq → i ≠ qa → h'[i]? = h[i]?
  new : qa' = qa ∨ h.length ≤ qa'
  rows : ∀ (i : Nat) (ob : AObj), h'[i]? = some ob → h[i]? = some ob ∨ ∃ cs T, ob = AObj.row cs T
theorem QStep.refl (iq qa : Nat) (h : AH) : QStep iq qa h qa h := ⟨Nat.le_refl _, fun _ _ _ _ => rfl, .inl rfl, fun _ _ e => .inl e⟩
theorem QStep.trans {iq qa qb qc : Nat} {a b c : AH} (h : QStep iq qa a qb b) (k : QStep iq qb b qc c) : QStep iq qa a qc c :=
  ⟨Nat.le_trans h.len k.len, fun i h1 h2 h3 => by
      rw [k.same i (Nat.lt_of_lt_of_le h1 h.len) h2 (by rcases h.new with e | e <;> omega), h.same i h1 h2 h3],
    by rcases h.new with e | e <;> rcases k.new with e' | e' <;> have := h.len <;> omega,
    fun i ob e => by
      rcases k.rows i ob e with e | e
      · exact h.rows i ob e
      · exact .inr e⟩
theorem QStep.set {iq qa : Nat} {h : AH} {i : Nat} {cs : List AV} {T : TypeId} (hi : i = iq ∨ i = qa) : QStep iq qa h qa (h.set i (.row cs T)) :=
  ⟨by simp, fun k _ h2 h3 => by rw [List.getElem?_set_ne (by rcases hi with rfl | rfl <;> omega)], .inl rfl, fun k ob e => by
    rw [List.getElem?_set] at e
    split at e
    · split at e
      · cases e; exact .inr ⟨_, _, rfl⟩
      · cases e
    · exact .inl e⟩
theorem QStep.app {iq qa : Nat} {h : AH} {cs : List AV} {T : TypeId} : QStep iq qa h qa (h ++ [.row cs T]) :=
  ⟨by simp, fun k h1 _ _ => by rw [List.getElem?_append_left h1], .inl rfl, fun k ob e => by
    rw [List.getElem?_append] at e
    split at e
    · exact .inl e
    · refine .inr ⟨cs, T, ?_⟩
      cases hk : k - h.length with
      | zero => rw [hk] at e; simpa using e.symm
      | succ k => rw [hk] at e; simp at e⟩
theorem QH.app {h : AH} {iq qa : Nat} {Q : List Qe} (H : QH h iq qa Q) (k : AH) : QH (h ++ k) iq qa Q := by
  obtain ⟨v, h1, h2, h3⟩ := H
  refine ⟨v, by rw [List.getElem?_append_left (List.getElem?_eq_some_iff.1 h1).1]; exact h1, h2, h3.imp id ?_⟩
  rintro ⟨c, pad, e1, e2, e3⟩
  exact ⟨c, pad, e1, by rw [List.getElem?_append_left (List.getElem?_eq_some_iff.1 e2).1]; exact e2, e3⟩
theorem rowsOK_R (e : Qe) : RowsOK 3 [.agg (encR e)] := fun r hr => by
  rw [List.mem_singleton] at hr
  subst hr
  refine ⟨rfl, fun c hc => ?_⟩
  simp only [encR, AV.cells, List.mem_cons, List.not_mem_nil, or_false] at hc
  rcases hc with rfl | rfl | rfl <;> rfl
set_option maxHeartbeats 1000000 in
set_option maxRecDepth 100000 in
theorem qpush_calls (Γ : Nat → Option (List AV)) (iq qa : Nat) (Q : List Qe) (x : Qe) (h : AH) (hq : QH h iq qa Q) (hl : Q.length ≤ 1000000000) :
    ACalls Try.prog Γ 88 [.ptr (some (iq, 0)), .iface 67 (.agg (encR x))] h fun _ h' => ∃ qa', QStep iq qa h qa' h' ∧ QH h' iq qa' (Q ++ [x]) := by
  obtain ⟨v, h1, hne, h3⟩ := hq
  refine acalls_of_awp (rs := []) Try.func88 rfl rfl rfl rfl ?_
  refine AWP.mark2 (by decide) ?_
  have hiq := (List.getElem?_eq_some_iff.1 h1).1
  obtain ⟨val, hval⟩ : ∃ val : Nat → AV, val = fun q => [.ptr (some (iq, 0)), .ptr (some (iq, 0)), .ptr (some (iq, 0)), v, .iface 67 (.agg (encR x)), .agg (encR x), .sl [.agg (encR x)] .full, .top, .ptr (some (iq, 0))].getD q .top := ⟨_, rfl⟩
  obtain ⟨Mid, hMid⟩ : ∃ Mid : AV → AH → Prop, Mid = fun v' h' => h'[iq]? = some (.row [v] 94) ∧ ∃ qa', QStep iq qa h qa' h' ∧ OwnC encR 3 0 qa' h' 67 v' (Q ++ [x]) ∧ iq ≠ qa' := ⟨_, rfl⟩
  obtain ⟨Iv, hIv⟩ : ∃ Iv : List Nat → Tm → AH → Prop, Iv = fun done σ h' => lk σ 0 = .ptr (some (iq, 0)) ∧ lk σ 1 = .iface 67 (.agg (encR x)) ∧ (lk σ 1000001 = .tuple [] ∧ lk σ 1000000 = .top) ∧ (∀ i ∈ done, i ≠ 7 → i ≠ 9 → lk σ (4 + i) = val i) ∧
    (if 9 ∈ done then ∃ qa', QStep iq qa h qa' h' ∧ QH h' iq qa' (Q ++ [x]) else if 7 ∈ done then Mid (lk σ 11) h' else h' = h) := ⟨_, rfl⟩
  have vals : val 0 = .ptr (some (iq, 0)) ∧ val 1 = .ptr (some (iq, 0)) ∧ val 2 = .ptr (some (iq, 0)) ∧ val 3 = v ∧ val 4 = .iface 67 (.agg (encR x)) ∧ val 5 = .agg (encR x) ∧ val 6 = .sl [.agg (encR x)] .full ∧ val 8 = .ptr (some (iq, 0)) := by rw [hval]; exact ⟨rfl, rfl, rfl, rfl, rfl, rfl, rfl, rfl⟩
  clear hval
  have stepv : ∀ (i : Nat) (done : List Nat) (σ : Tm) (h' : AH) (u : AV), i < 9 → i ≠ 7 → u = val i → Iv done σ h' → i ∉ done → Iv (i :: done) (put (some (4 + i)) u σ) h' := fun i done σ h' u hi h7 hu hI hni => by
    subst hu
    rw [hIv] at hI ⊢
    obtain ⟨a1, a2, a3, a4, a5⟩ := hI
    refine ⟨by rw [lk_put_ne (by omega)]; exact a1, by rw [lk_put_ne (by omega)]; exact a2, ⟨by rw [lk_put_ne (by omega)]; exact a3.1, by rw [lk_put_ne (by omega)]; exact a3.2⟩, fun k hk h1 h2 => ?_, ?_⟩
    · rcases List.mem_cons.1 hk with rfl | hk
      · rw [lk_put_self]
      · rw [lk_put_ne (d := 4 + i) (t := 4 + k) (fun e => hni ((show k = i by omega) ▸ hk))]; exact a4 k hk h1 h2
    · have e9 : (9 ∈ i :: done) ↔ 9 ∈ done := by simp; omega
      have e7 : (7 ∈ i :: done) ↔ 7 ∈ done := by simp; omega
      simp only [e9, e7]
      rw [lk_put_ne (by omega)]
      exact a5
  refine awp_any_inv [[], [], [1], [2], [], [4], [5], [3, 6], [0], [8, 7]] Iv Ty.mixed (by kernel_rfl) (by kernel_rfl) (by kernel_rfl) ?_ ?_ ?_
  · rw [hIv]
    exact ⟨rfl, rfl, ⟨rfl, rfl⟩, by simp, by simp⟩
  · intro i o ho done σ h' hI hd hcl hni C hC
    have hI0 := hI
    rw [hIv] at hI
    obtain ⟨a1, a2, a3, a4, a5⟩ := hI
    have hv : ∀ k, k ∈ done → k ≠ 7 → k ≠ 9 → lk σ (4 + k) = val k := a4
    rcases i with _ | _ | _ | _ | _ | _ | _ | _ | _ | _ | i
    all_goals simp only [List.getElem?_toArray, List.getElem?_cons_zero, List.getElem?_cons_succ, Option.some.injEq, List.getElem?_nil, reduceCtorEq, Nat.zero_add, Nat.reduceAdd] at ho
    all_goals subst ho
    all_goals rw [aOper_plain]
    · simp (disch := omega) only [go_sem, seval, a1]
      exact hC _ _ (stepv 0 done σ h' _ (by decide) (by decide) vals.1.symm hI0 hni)
    · simp (disch := omega) only [go_sem, seval, a1]
      exact hC _ _ (stepv 1 done σ h' _ (by decide) (by decide) vals.2.1.symm hI0 hni)
    · have v1 : lk σ 5 = _ := (hv 1 (hd 1 (by decide)) (by decide) (by decide)).trans vals.2.1
      simp (disch := omega) only [go_sem, seval, v1]
      exact hC _ _ (stepv 2 done σ h' _ (by decide) (by decide) vals.2.2.1.symm hI0 hni)
    · have v2 : lk σ 6 = _ := (hv 2 (hd 2 (by decide)) (by decide) (by decide)).trans vals.2.2.1
      have h7 : 7 ∉ done := fun e => hni (hcl 7 e 3 (by decide))
      have h9 : 9 ∉ done := fun e => h7 (hcl 9 e 7 (by decide))
      rw [if_neg h9, if_neg h7] at a5
      subst a5
      simp (disch := omega) only [go_sem, seval, v2, h1]
      exact hC _ _ (stepv 3 done σ _ _ (by decide) (by decide) vals.2.2.2.1.symm hI0 hni)
    · simp (disch := omega) only [go_sem, seval, a2]
      exact hC _ _ (stepv 4 done σ h' _ (by decide) (by decide) vals.2.2.2.2.1.symm hI0 hni)
    · have v4 : lk σ 8 = _ := (hv 4 (hd 4 (by decide)) (by decide) (by decide)).trans vals.2.2.2.2.1
      simp (disch := omega) only [go_sem, seval, v4]
      exact hC _ _ (stepv 5 done σ h' _ (by decide) (by decide) vals.2.2.2.2.2.1.symm hI0 hni)
    · have v5 : lk σ 9 = _ := (hv 5 (hd 5 (by decide)) (by decide) (by decide)).trans vals.2.2.2.2.2.1
      have hmF : mF σ = false := by rw [mF, a3.2]; rfl
      simp (disch := omega) only [go_sem, seval, v5, hmF]
      refine ⟨rfl, ?_⟩
      exact hC _ _ (stepv 6 done σ h' _ (by decide) (by decide) vals.2.2.2.2.2.2.1.symm hI0 hni)
    · have v3 : lk σ 7 = _ := (hv 3 (hd 3 (by decide)) (by decide) (by decide)).trans vals.2.2.2.1
      have v6 : lk σ 10 = _ := (hv 6 (hd 6 (by decide)) (by decide) (by decide)).trans vals.2.2.2.2.2.2.1
      have h9 : 9 ∉ done := fun e => hni (hcl 9 e 7 (by decide))
      have hmB : mB σ = true := by rw [mB, a3.1]; rfl
      have hmF : mF σ = false := by rw [mF, a3.2]; rfl
      rw [if_neg h9, if_neg hni] at a5
      subst a5
      simp (disch := omega) only [go_sem, seval, v3, v6, hmB]
      refine aApM_C (enc := encR) (l := Q) (l2 := [x]) (h := []) (j := h') (q := qa) encR_len (by decide) (h3.imp id ?_) rfl (rowsOK_R x) (by simp [flat, AV.cells]) rfl (by simp) (by simp; omega) (by simp; omega) fun v' q' j' ho hl2 hk hq hr => ?_
      · rintro ⟨c, pad, e1, e2, e3, e4⟩
        exact ⟨c, pad, by rw [e1]; simp, e2, e3, e4⟩
      · have hst : QStep iq qa h' q' j' := ⟨hl2, fun i q1 _ q3 => hk i q1 q3, hq, fun i ob e => (hr i ob e).imp id fun ⟨cs, e⟩ => ⟨cs, _, e⟩⟩
        refine hC v' j' ?_
        rw [hIv]
        refine ⟨by rw [lk_put_ne (by omega)]; exact a1, by rw [lk_put_ne (by omega)]; exact a2, ⟨by rw [lk_put_ne (by omega)]; exact a3.1, by rw [lk_put_ne (by omega)]; exact a3.2⟩, fun k hk h1 h2 => ?_, ?_⟩
        · rcases List.mem_cons.1 hk with rfl | hk
          · exact absurd rfl h1
          · rw [lk_put_ne (by omega)]; exact a4 k hk h1 h2
        · rw [if_neg (by simp; exact h9), if_pos (by simp), lk_put_self, hMid]
          exact ⟨by rw [hk iq hiq hne]; exact h1, q', hst, ho, by rcases hq with rfl | hq <;> omega⟩
    · have v0 : lk σ 4 = _ := (hv 0 (hd 0 (by decide)) (by decide) (by decide)).trans vals.1
      simp (disch := omega) only [go_sem, seval, v0]
      exact hC _ _ (stepv 8 done σ h' _ (by decide) (by decide) vals.2.2.2.2.2.2.2.symm hI0 hni)
    · have v8 : lk σ 12 = _ := (hv 8 (hd 8 (by decide)) (by decide) (by decide)).trans vals.2.2.2.2.2.2.2
      rw [if_neg hni, if_pos (hd 7 (by decide)), hMid] at a5
      obtain ⟨m1, qa', m2, m3, m4⟩ := a5
      obtain ⟨c, pad, e1, e2, e3, e4⟩ := m3
      rw [Nat.zero_add] at e1
      simp (disch := omega) only [go_sem, seval, v8, m1, e1]
      have hiq' := (List.getElem?_eq_some_iff.1 m1).1
      refine hC _ _ ?_
      rw [hIv]
      refine ⟨a1, a2, a3, fun k hk h1 h2 => ?_, ?_⟩
      · rcases List.mem_cons.1 hk with rfl | hk
        · exact absurd rfl h2
        · exact a4 k hk h1 h2
      · rw [if_pos (by simp)]
        refine ⟨qa', m2.trans (QStep.set (.inl rfl)), ⟨_, List.getElem?_set_self hiq', m4, .inr ⟨c, pad, rfl, ?_, e3, e4⟩⟩⟩
        rw [List.getElem?_set_ne m4]; exact e2
  · intro done σ h' hall hI
    rw [hIv] at hI
    obtain ⟨a1, a2, a3, a4, a5⟩ := hI
    rw [if_pos (hall 9 (by decide))] at a5
    simp (disch := omega) only [go_sem, seval]
    exact a5
set_option maxHeartbeats 1000000 in
set_option maxRecDepth 100000 in
theorem qpop_calls (Γ : Nat → Option (List AV)) (iq qa : Nat) (Q : List Qe) (x : Qe) (h : AH) (hq : QH h iq qa (Q ++ [x])) (hl : Q.length ≤ 1000000000) :
    ACalls Try.prog Γ 87 [.ptr (some (iq, 0))] h fun v h' => v = .iface 67 (.agg (encR x)) ∧ QStep iq qa h qa h' ∧ QH h' iq qa Q := by
  obtain ⟨v, h1, hne, h3⟩ := hq
  rcases h3 with ⟨_, h3⟩ | ⟨c, pad, rfl, h4, h5, h6⟩
  · simp at h3
  have hx : atL (Q ++ [x]) Q.length = x := by simp [atL]
  have d0 := encR_drop0 (Q := Q ++ [x]) (i := Q.length) (by simp) pad
  rw [hx] at d0
  have hlen : (Q ++ [x]).length = Q.length + 1 := by simp
  have hiq := (List.getElem?_eq_some_iff.1 h1).1
  refine acalls_code (rs := [.tmp 2]) Try.func87 rfl rfl rfl rfl Ty.mixed (by kernel_rfl) ?_
  simp (disch := omega) only [go_sem, seval, h1]
  have hwr : ((Q ++ [x]).length : Int) - 1 = (Q.length : Int) := by omega
  rw [hwr]
  simp (disch := omega) only [go_sem, seval, h4, Int.toNat_natCast, Nat.zero_add, d0, List.take_succ_cons, List.take_zero, List.length_cons]
  refine ⟨by omega, by omega, ?_⟩
  have hc : Q.length + 1 ≤ c := Nat.le_of_mul_le_mul_right (c := 3) (by rw [hlen] at h5; omega) (by decide)
  refine ⟨by omega, by omega, by omega, by omega, by simp, ?_⟩
  rw [hwr]
  simp only [Int.toNat_natCast, Nat.sub_zero, Nat.zero_mul, Nat.add_zero, ite_self]
  have k1 : ∀ k, (h ++ k)[iq]? = some (.row [.ms qa 0 (Q ++ [x]).length c 3] 94) := fun k => by rw [List.getElem?_append_left hiq]; exact h1
  have k2 : ∀ (k : AH) o, (h ++ k).set iq o = h.set iq o ++ k := fun k o => List.set_append_left _ _ hiq
  have k3 : ∀ (o : AObj) (k : AH), (h.set iq o ++ k)[h.length]? = k[0]? := fun o k => by rw [List.getElem?_append_right (by simp)]; simp
  simp (disch := omega) only [go_sem, seval, k1, k2, k3]
  refine ⟨rfl, (QStep.set (.inl rfl)).trans QStep.app, ?_⟩
  refine QH.app ⟨_, List.getElem?_set_self hiq, hne, .inr ⟨c, encR x ++ pad, rfl, ?_, ?_, ?_⟩⟩ _
  · rw [List.getElem?_set_ne hne, h4]
    simp [cR]
  · rw [hlen] at h5
    simp [encR_len]; omega
  · intro a ha
    rcases List.mem_append.1 ha with ha | ha
    · exact encR_agg x a ha
    · exact h6 a ha
end Go.Proofs.Ytaepdkjfaeepmaa

/- container/heap over the program's queue. No conditions. -/
set_option linter.unusedSimpArgs false
set_option linter.unusedVariables false
namespace Go.Proofs.Ytaepdkjfaeepmaa
open Go Go.Proofs Go.Abs

theorem QH.ms {h : AH} {iq qa : Nat} {Q : List Qe} (H : QH h iq qa Q) (hl : 0 < Q.length) : ∃ c pad, h[iq]? = some (.row [.ms qa 0 Q.length c 3] 94) ∧ h[qa]? = some (.row (cR encR Q pad) 67) ∧ iq ≠ qa ∧ c * 3 = Q.length * 3 + pad.length ∧ ∀ a ∈ pad, a.isAgg = false := by
  obtain ⟨v, h1, h2, ⟨_, rfl⟩ | ⟨c, pad, rfl, h3, h4, h5⟩⟩ := H
  · simp at hl
  · exact ⟨c, pad, h1, h3, h2, h4, h5⟩
theorem inv_less (Γ : Nat → Option (List AV)) {h : AH} {iq qa : Nat} {Q : List Qe} (H : QH h iq qa Q) {i k : Nat} (hi : i < Q.length) (hk : k < Q.length) {R : AV → AH → Prop} (hR : R (.bool (ltQ (atL Q i) (atL Q k))) h) :
    aInvoke Try.prog Γ (.iface 93 (.ptr (some (iq, 0)))) "Less" [.int .i64 i, .int .i64 k] h R := by
  obtain ⟨c, pad, h1, h2, h3, h4, h5⟩ := H.ms (by omega)
  refine aInvoke_cell (e := 94) 86 (.ms qa 0 Q.length c 3) (by kernel_rfl) (by kernel_rfl) ?_ ?_
  · simp (disch := omega) only [go_sem, seval, h1]
  · exact ACalls.det (qless_calls Γ qa c Q pad _ i k h h2 hi hk) hR
theorem inv_len (Γ : Nat → Option (List AV)) {h : AH} {iq qa : Nat} {Q : List Qe} (H : QH h iq qa Q) {R : AV → AH → Prop} (hR : R (.int .i64 Q.length) h) :
    aInvoke Try.prog Γ (.iface 93 (.ptr (some (iq, 0)))) "Len" [] h R := by
  obtain ⟨v, h1, h2, ⟨rfl, rfl⟩ | ⟨c, pad, rfl, h3, h4, h5⟩⟩ := H
  · refine aInvoke_cell (e := 94) 48 (.sl [] .full) (by kernel_rfl) (by kernel_rfl) ?_ ?_
    · simp (disch := omega) only [go_sem, seval, h1]
    · exact ACalls.det (qlen0_calls Γ _ h) hR
  · refine aInvoke_cell (e := 94) 48 (.ms qa 0 Q.length c 3) (by kernel_rfl) (by kernel_rfl) ?_ ?_
    · simp (disch := omega) only [go_sem, seval, h1]
    · exact ACalls.det (qlen_calls Γ qa Q.length c h) hR
theorem inv_swap (Γ : Nat → Option (List AV)) {h : AH} {iq qa : Nat} {Q : List Qe} (H : QH h iq qa Q) {i k : Nat} (hi : i < Q.length) (hk : k < Q.length) {R : AV → AH → Prop} (hR : ∀ v h', QStep iq qa h qa h' → QH h' iq qa (swapL Q i k) → R v h') :
    aInvoke Try.prog Γ (.iface 93 (.ptr (some (iq, 0)))) "Swap" [.int .i64 i, .int .i64 k] h R := by
  obtain ⟨c, pad, h1, h2, h3, h4, h5⟩ := H.ms (by omega)
  have hq := (List.getElem?_eq_some_iff.1 h2).1
  refine aInvoke_cell (e := 94) 89 (.ms qa 0 Q.length c 3) (by kernel_rfl) (by kernel_rfl) ?_ ?_
  · simp (disch := omega) only [go_sem, seval, h1]
  · refine (qswap_calls Γ qa c Q pad _ i k h h2 hi hk).mono ?_
    rintro v h' rfl
    refine hR _ _ (QStep.set (.inr rfl)) ⟨_, by rw [List.getElem?_set_ne (Ne.symm h3)]; exact h1, h3, .inr ⟨c, pad, by rw [swapL_len], List.getElem?_set_self hq, by rw [swapL_len]; exact h4, h5⟩⟩
structure HpS where
  j : Nat
  Q : List Qe
  h : AH
set_option maxHeartbeats 1000000 in
set_option maxRecDepth 100000 in
theorem hup_calls (Γ : Nat → Option (List AV)) (iq qa : Nat) (Q : List Qe) (j : Nat) (h : AH) (hq : QH h iq qa Q) (hu : UpI qle Q j) (hj : j < Q.length) (hl : Q.length ≤ 1000000000) :
    ACalls Try.prog Γ 63 [.iface 93 (.ptr (some (iq, 0))), .int .i64 j] h fun _ h' => ∃ Q', QStep iq qa h qa h' ∧ QH h' iq qa Q' ∧ Q'.Perm Q ∧ HeapN qle Q' Q'.length := by
  refine acalls_code (rs := []) Try.func63 rfl rfl rfl rfl Ty.mixed (by kernel_rfl) ?_
  simp (disch := omega) only [go_sem, seval]
  refine awp_loopS (α := HpS) [0, 1] (fun w => [(0, .iface 93 (.ptr (some (iq, 0)))), (1, .int .i64 w.j)]) (fun w => w.h) (fun w => QStep iq qa h qa w.h ∧ QH w.h iq qa w.Q ∧ w.Q.Perm Q ∧ UpI qle w.Q w.j ∧ w.j < w.Q.length) (fun w => w.j) ⟨j, Q, h⟩ ?_ rfl ⟨.refl _ _ _, hq, .refl _, hu, hj⟩ Ty.mixed (by kernel_rfl) ?_
  · simp (disch := omega) only [go_sem, seval]
  rintro ⟨j, Q2, h2⟩ ⟨hst, hq2, hp, hu2, hj2⟩
  simp only at hst hq2 hp hu2 hj2 ⊢
  have hlen := hp.length_eq
  simp (disch := omega) only [go_sem, seval]
  have hdiv : IntKind.i64.wrap (((j : Int) - 1).tdiv 2) = ((j - 1) / 2 : Nat) := by
    have e : ((j : Int) - 1).tdiv 2 = ((j - 1) / 2 : Nat) := by
      cases j with
      | zero => rfl
      | succ j => rw [Int.tdiv_eq_ediv_of_nonneg (by omega)]; omega
    rw [e, IntKind.wrap_i64]; omega
  rw [hdiv]
  refine aIf.intro (fun h1 => ?_) (fun h1 => ?_) <;> simp (disch := omega) only [go_sem, seval]
  · exact ⟨Q2, hst, hq2, hp, hu2.stop (.inl (by omega))⟩
  refine inv_less Γ hq2 hj2 (by omega) ?_
  simp (disch := omega) only [go_sem, seval]
  cases hlt : ltQ (atL Q2 j) (atL Q2 ((j - 1) / 2)) with
  | false =>
    simp (disch := omega) only [go_sem, seval]
    exact ⟨Q2, hst, hq2, hp, hu2.stop (.inr (ltQ_false.1 hlt))⟩
  | true =>
    simp (disch := omega) only [go_sem, seval]
    refine inv_swap Γ hq2 (by omega) hj2 fun v h' hst' hq' => ?_
    simp (disch := omega) only [go_sem, seval]
    refine roundS_next (⟨(j - 1) / 2, swapL Q2 ((j - 1) / 2) j, h'⟩ : HpS) (by simp only; omega) ⟨hst.trans hst', hq', (swapL_perm (by omega) hj2).trans hp, hu2.swap qle_total qle_trans (by omega) hj2 (ltQ_iff.1 hlt), by simp only [swapL_len]; omega⟩ ?_ rfl
    simp (disch := omega) only [go_sem, seval]
set_option maxHeartbeats 2000000 in
set_option maxRecDepth 100000 in
theorem hdown_calls (Γ : Nat → Option (List AV)) (iq qa : Nat) (Q : List Qe) (n : Nat) (h : AH) (hq : QH h iq qa Q) (hd : DnI qle Q n 0) (hn : n ≤ Q.length) (hl : Q.length ≤ 1000000000) :
    ACalls Try.prog Γ 64 [.iface 93 (.ptr (some (iq, 0))), .int .i64 0, .int .i64 n] h fun _ h' => ∃ Q', QStep iq qa h qa h' ∧ QH h' iq qa Q' ∧ Q'.Perm Q ∧ HeapN qle Q' n ∧ ∀ k, n ≤ k → k < Q.length → atL Q' k = atL Q k := by
  refine acalls_code (rs := [.tmp 6]) Try.func64 rfl rfl rfl rfl Ty.mixed (by kernel_rfl) ?_
  simp (disch := omega) only [go_sem, seval]
  refine awp_loopS (α := HpS) [0, 1, 2, 6, 7] (fun w => [(0, .iface 93 (.ptr (some (iq, 0)))), (1, .int .i64 0), (2, .int .i64 n), (6, .bool false), (7, .int .i64 w.j)]) (fun w => w.h) (fun w => QStep iq qa h qa w.h ∧ QH w.h iq qa w.Q ∧ w.Q.Perm Q ∧ DnI qle w.Q n w.j ∧ (∀ k, n ≤ k → k < Q.length → atL w.Q k = atL Q k) ∧ w.j ≤ n) (fun w => n - w.j) ⟨0, Q, h⟩ ?_ rfl ⟨.refl _ _ _, hq, .refl _, hd, fun _ _ _ => rfl, Nat.zero_le _⟩ Ty.mixed (by kernel_rfl) ?_
  · simp (disch := omega) only [go_sem, seval]
  rintro ⟨j, Q2, h2⟩ ⟨hst, hq2, hp, hd2, hk2, hj2⟩
  simp only at hst hq2 hp hd2 hk2 hj2 ⊢
  have hlen := hp.length_eq
  simp (disch := omega) only [go_sem, seval]
  refine aIf.intro (fun h1 => ?_) (fun h1 => ?_) <;> simp (disch := omega) only [go_sem, seval]
  · refine AWP.keep [1, 7] (aCode_ok Ty.mixed _ _ _ _ (by kernel_rfl) ?_)
    simp (disch := omega) only [go_sem, seval]
    exact ⟨Q2, hst, hq2, hp, hd2.stop fun k k1 k2 k3 => by omega, hk2⟩
  have ec1 : (2 * (j : Int) + 1) = ((2 * j + 1 : Nat) : Int) := by omega
  have ec2 : (((2 * j + 1 : Nat) : Int) + 1) = ((2 * j + 2 : Nat) : Int) := by omega
  refine aIf.neg (by omega) ?_
  simp (disch := omega) only [go_sem, seval]
  refine aIf.intro (fun h3 => ?_) (fun h3 => ?_) <;> simp (disch := omega) only [go_sem, seval]
  · simp only [ec1, ec2]
    refine inv_less Γ hq2 (i := 2 * j + 2) (k := 2 * j + 1) (by omega) (by omega) ?_
    simp (disch := omega) only [go_sem, seval]
    cases hlt : ltQ (atL Q2 (2 * j + 2)) (atL Q2 (2 * j + 1)) with
    | true =>
      have best : ∀ k, 0 < k → k < n → (k - 1) / 2 = j → qle (atL Q2 (2 * j + 2)) (atL Q2 k) := fun k k1 k2 k3 => by
        have : k = 2 * j + 1 ∨ k = 2 * j + 2 := by omega
        rcases this with rfl | rfl
        · exact (qle_total _ _).resolve_right (ltQ_iff.1 hlt)
        · exact qle_refl _
      simp (disch := omega) only [go_sem, seval]
      try simp only [ec1, ec2]
      refine inv_less Γ hq2 (i := 2 * j + 2) (k := j) (by omega) (by omega) ?_
      simp (disch := omega) only [go_sem, seval]
      cases hlt2 : ltQ (atL Q2 (2 * j + 2)) (atL Q2 j) with
      | false =>
        simp (disch := omega) only [go_sem, seval]
        refine AWP.keep [1, 7] (aCode_ok Ty.mixed _ _ _ _ (by kernel_rfl) ?_)
        simp (disch := omega) only [go_sem, seval]
        exact ⟨Q2, hst, hq2, hp, hd2.stop fun k k1 k2 k3 => qle_trans _ _ _ (ltQ_false.1 hlt2) (best k k1 k2 k3), hk2⟩
      | true =>
        simp (disch := omega) only [go_sem, seval]
        try simp only [ec1, ec2]
        refine inv_swap Γ hq2 (i := j) (k := 2 * j + 2) (by omega) (by omega) fun v h' hst' hq' => ?_
        simp (disch := omega) only [go_sem, seval]
        refine roundS_next (⟨2 * j + 2, swapL Q2 j (2 * j + 2), h'⟩ : HpS) (by simp only; omega) ⟨hst.trans hst', hq', (swapL_perm (by omega) (by omega)).trans hp, hd2.swap qle_total qle_trans (by omega) (by omega) (by omega) (by omega) (best) (ltQ_iff.1 hlt2), fun k q1 q2 => ?_, by simp only; omega⟩ ?_ rfl
        · simp only
          rw [swapL_at (by omega) (by omega), if_neg (by omega), if_neg (by omega)]
          exact hk2 k q1 q2
        · simp (disch := omega) only [go_sem, seval, ec1, ec2]
    | false =>
      have best : ∀ k, 0 < k → k < n → (k - 1) / 2 = j → qle (atL Q2 (2 * j + 1)) (atL Q2 k) := fun k k1 k2 k3 => by
        have : k = 2 * j + 1 ∨ k = 2 * j + 2 := by omega
        rcases this with rfl | rfl
        · exact qle_refl _
        · exact ltQ_false.1 hlt
      simp (disch := omega) only [go_sem, seval]
      try simp only [ec1, ec2]
      refine inv_less Γ hq2 (i := 2 * j + 1) (k := j) (by omega) (by omega) ?_
      simp (disch := omega) only [go_sem, seval]
      cases hlt2 : ltQ (atL Q2 (2 * j + 1)) (atL Q2 j) with
      | false =>
        simp (disch := omega) only [go_sem, seval]
        refine AWP.keep [1, 7] (aCode_ok Ty.mixed _ _ _ _ (by kernel_rfl) ?_)
        simp (disch := omega) only [go_sem, seval]
        exact ⟨Q2, hst, hq2, hp, hd2.stop fun k k1 k2 k3 => qle_trans _ _ _ (ltQ_false.1 hlt2) (best k k1 k2 k3), hk2⟩
      | true =>
        simp (disch := omega) only [go_sem, seval]
        try simp only [ec1, ec2]
        refine inv_swap Γ hq2 (i := j) (k := 2 * j + 1) (by omega) (by omega) fun v h' hst' hq' => ?_
        simp (disch := omega) only [go_sem, seval]
        refine roundS_next (⟨2 * j + 1, swapL Q2 j (2 * j + 1), h'⟩ : HpS) (by simp only; omega) ⟨hst.trans hst', hq', (swapL_perm (by omega) (by omega)).trans hp, hd2.swap qle_total qle_trans (by omega) (by omega) (by omega) (by omega) (best) (ltQ_iff.1 hlt2), fun k q1 q2 => ?_, by simp only; omega⟩ ?_ rfl
        · simp only
          rw [swapL_at (by omega) (by omega), if_neg (by omega), if_neg (by omega)]
          exact hk2 k q1 q2
        · simp (disch := omega) only [go_sem, seval, ec1, ec2]
  · have best : ∀ k, 0 < k → k < n → (k - 1) / 2 = j → qle (atL Q2 (2 * j + 1)) (atL Q2 k) := fun k k1 k2 k3 => by
      have : k = 2 * j + 1 := by omega
      subst this; exact qle_refl _
    try simp only [ec1, ec2]
    refine inv_less Γ hq2 (i := 2 * j + 1) (k := j) (by omega) (by omega) ?_
    simp (disch := omega) only [go_sem, seval]
    cases hlt2 : ltQ (atL Q2 (2 * j + 1)) (atL Q2 j) with
    | false =>
      simp (disch := omega) only [go_sem, seval]
      refine AWP.keep [1, 7] (aCode_ok Ty.mixed _ _ _ _ (by kernel_rfl) ?_)
      simp (disch := omega) only [go_sem, seval]
      exact ⟨Q2, hst, hq2, hp, hd2.stop fun k k1 k2 k3 => qle_trans _ _ _ (ltQ_false.1 hlt2) (best k k1 k2 k3), hk2⟩
    | true =>
      simp (disch := omega) only [go_sem, seval]
      try simp only [ec1, ec2]
      refine inv_swap Γ hq2 (i := j) (k := 2 * j + 1) (by omega) (by omega) fun v h' hst' hq' => ?_
      simp (disch := omega) only [go_sem, seval]
      refine roundS_next (⟨2 * j + 1, swapL Q2 j (2 * j + 1), h'⟩ : HpS) (by simp only; omega) ⟨hst.trans hst', hq', (swapL_perm (by omega) (by omega)).trans hp, hd2.swap qle_total qle_trans (by omega) (by omega) (by omega) (by omega) (best) (ltQ_iff.1 hlt2), fun k q1 q2 => ?_, by simp only; omega⟩ ?_ rfl
      · simp only
        rw [swapL_at (by omega) (by omega), if_neg (by omega), if_neg (by omega)]
        exact hk2 k q1 q2
      · simp (disch := omega) only [go_sem, seval, ec1, ec2]
set_option maxHeartbeats 1000000 in
set_option maxRecDepth 100000 in
theorem hpush_calls (Γ : Nat → Option (List AV)) (iq qa : Nat) (Q : List Qe) (x : Qe) (h : AH) (hq : QH h iq qa Q) (hh : HeapN qle Q Q.length) (hl : Q.length ≤ 100000000) :
    ACalls Try.prog Γ 47 [.iface 93 (.ptr (some (iq, 0))), .iface 67 (.agg (encR x))] h fun _ h' => ∃ qa' Q', QStep iq qa h qa' h' ∧ QH h' iq qa' Q' ∧ Q'.Perm (Q ++ [x]) ∧ HeapN qle Q' Q'.length := by
  refine acalls_code (rs := []) Try.func47 rfl rfl rfl rfl Ty.mixed (by kernel_rfl) ?_
  simp (disch := omega) only [go_sem, seval]
  refine aInvoke_ptr (e := 94) 88 (by kernel_rfl) (by kernel_rfl) ?_
  refine ACalls.then (qpush_calls Γ iq qa Q x h hq (by omega)) ?_
  rintro _ h1 ⟨qa', s1, q1⟩
  simp (disch := omega) only [go_sem, seval]
  refine inv_len Γ q1 ?_
  have hlen : (Q ++ [x]).length = Q.length + 1 := by simp
  simp (disch := omega) only [go_sem, seval]
  have e : ((Q ++ [x]).length : Int) - 1 = (Q.length : Int) := by omega
  rw [e]
  refine ACalls.then (hup_calls Γ iq qa' (Q ++ [x]) Q.length h1 q1 (UpI.first hh x) (by omega) (by omega)) ?_
  rintro _ h2 ⟨Q', s2, q2, p2, hh2⟩
  simp (disch := omega) only [go_sem, seval]
  exact ⟨qa', Q', s1.trans s2, q2, p2, hh2⟩
set_option maxHeartbeats 1000000 in
set_option maxRecDepth 100000 in
theorem hpop_calls (Γ : Nat → Option (List AV)) (iq qa : Nat) (Q : List Qe) (h : AH) (hq : QH h iq qa Q) (hh : HeapN qle Q Q.length) (hl : Q.length ≤ 100000000) (hne : 0 < Q.length) :
    ACalls Try.prog Γ 49 [.iface 93 (.ptr (some (iq, 0)))] h fun v h' => v = .iface 67 (.agg (encR (atL Q 0))) ∧ ∃ Q', QStep iq qa h qa h' ∧ QH h' iq qa Q' ∧ (atL Q 0 :: Q').Perm Q ∧ HeapN qle Q' Q'.length := by
  obtain ⟨n, hn⟩ : ∃ n, Q.length = n + 1 := ⟨Q.length - 1, by omega⟩
  refine acalls_code (rs := [.tmp 2]) Try.func49 rfl rfl rfl rfl Ty.mixed (by kernel_rfl) ?_
  simp (disch := omega) only [go_sem, seval]
  refine inv_len Γ hq ?_
  simp (disch := omega) only [go_sem, seval]
  have e : (Q.length : Int) - 1 = (n : Int) := by omega
  rw [e]
  refine inv_swap Γ hq (i := 0) (k := n) (by omega) (by omega) fun _ h1 s1 q1 => ?_
  simp (disch := omega) only [go_sem, seval]
  refine ACalls.then (hdown_calls Γ iq qa (swapL Q 0 n) n h1 q1 (DnI.first (by rw [← hn]; exact hh) hn) (by rw [swapL_len]; omega) (by rw [swapL_len]; omega)) ?_
  rintro _ h2 ⟨Q2, s2, q2, p2, hh2, k2⟩
  have hl2 : Q2.length = n + 1 := by rw [p2.length_eq, swapL_len, hn]
  have hx := k2 n (Nat.le_refl _) (by rw [swapL_len]; omega)
  rw [swapL_at (by omega) (by omega), if_pos rfl] at hx
  have hsplit : Q2 = Q2.take n ++ [atL Q 0] := by
    rw [← hx, atL_get (by omega)]
    have := List.take_append_drop n Q2
    rw [List.drop_eq_getElem_cons (by omega), List.drop_of_length_le (by omega)] at this
    exact this.symm
  have hl3 : (Q2.take n).length = n := by rw [List.length_take]; omega
  rw [hsplit] at q2
  simp (disch := omega) only [go_sem, seval]
  refine aInvoke_ptr (e := 94) 87 (by kernel_rfl) (by kernel_rfl) ?_
  refine ACalls.then (qpop_calls Γ iq qa (Q2.take n) (atL Q 0) h2 q2 (by omega)) ?_
  rintro _ h3 ⟨rfl, s3, q3⟩
  simp (disch := omega) only [go_sem, seval]
  refine ⟨Q2.take n, (s1.trans s2).trans s3, q3, ?_, ?_⟩
  · have h4 : (atL Q 0 :: Q2.take n).Perm (Q2.take n ++ [atL Q 0]) := by
      have := List.perm_append_comm (l₁ := [atL Q 0]) (l₂ := Q2.take n)
      exact this
    rw [← hsplit] at h4
    exact h4.trans (p2.trans (swapL_perm (by omega) (by omega)))
  · rw [hl3]
    intro k k1 k2'
    have ha : ∀ i, i < n → atL (Q2.take n) i = atL Q2 i := fun i hi => by rw [atL, List.getElem?_take_of_lt hi]; rfl
    rw [ha _ (by omega), ha _ k2']
    exact hh2 k k1 k2'
end Go.Proofs.Ytaepdkjfaeepmaa
