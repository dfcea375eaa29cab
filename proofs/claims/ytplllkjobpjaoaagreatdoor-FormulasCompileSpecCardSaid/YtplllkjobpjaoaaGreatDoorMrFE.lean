/- Texts joined: FrU. No conditions. -/
import Derived.Test.YtplllkjobpjaoaaGreatDoorMrFD
/- The program's gate, at last. No conditions. -/
set_option linter.unusedSimpArgs false
set_option linter.unusedVariables false
namespace Go.Proofs.YtplllkjobpjaoaaGreatDoor
open Go Go.Proofs Go.Abs

def gtK (h : AH) (v : Int) (hs : List (List Hd)) (x : Ex) (g : List AV) : AH := h ++ [.row [.int .i64 v, .sl (encHl hs) .free] 57, .row [.int .i64 x.k, .int .i64 x.n, .int .i64 x.no, .str ⟨⟨x.name⟩⟩, .sl (x.l.map encX) .free] 26, .row g 34]
def fnV (b : Nat) (k : Int) : AV := if k = 1 then .func 52 [] [.ptr (some (b, 0))] else if k = 2 then .func 54 [] [.ptr (some (b, 0))] else if k = 3 then .func 56 [] [] else .func 57 [] []
theorem knd_get (b : Nat) (k : Int) (h : 1 ≤ k ∧ k ≤ 4) : mGet k (kndM b) = some (fnV b k) := by
  obtain e | e | e | e : k = 1 ∨ k = 2 ∨ k = 3 ∨ k = 4 := by omega
  all_goals subst e; rfl
set_option maxHeartbeats 4000000 in
set_option maxRecDepth 100000 in
theorem gate_calls_k (Γ : Nat → Option (List AV)) (v : Int) (hs : List (List Hd)) (H : HdOK hs []) (o : List Tx) (u : Bool) (ho : o.length = hs.length) (hl10 : ∀ l ∈ hs, l.length ≤ 100) : ∀ (m : Nat) (x : Ex), SizeOf.sizeOf x < m → okX o u x = true → GatC Γ v hs x
  | 0, _, hk, _ => absurd hk (Nat.not_lt_zero _)
  | m + 1, x, hsz, hok => by
    have IH : ∀ y ∈ x.l, GatC Γ v hs y := fun y hy => gate_calls_k Γ v hs H o u ho hl10 m y (by cases x; exact memX_sz hy hsz) (okX_sub hok hy)
    have htop := okX_top hok
    have hk := okF_kind htop
    intro h
    have hd := formG_eq v hs x
    have hno : x.k = 1 ∨ x.k = 2 → 0 ≤ x.no ∧ x.no < hs.length := fun e => by have := okF_named htop e; omega
    obtain ⟨p, n, l, hg⟩ : ∃ p n l, formG v hs x = .mk p n l := by cases formG v hs x with | mk p n l => exact ⟨p, n, l, rfl⟩
    refine ACalls.dropL ?_
    rw [encX_eq, encCm, cmC, hg, Fr.encG_mk]
    refine acalls_of_awp (rs := [.cell 4 34]) Tryz.func21 rfl rfl rfl rfl ?_
    refine awp_seq (aCode_ok Ty.mixed _ _ _ _ (by kernel_rfl) ?_)
    simp (disch := omega) only [go_sem, seval]
    obtain ⟨b, hb⟩ : ∃ b, b = h.length + 3 := ⟨_, rfl⟩
    obtain ⟨Hd0, hHd⟩ : ∃ Hd0 : List Nat → AH, Hd0 = fun done => if 7 ∈ done then gtK h v hs x [.int .i64 p, .int .i64 n, .sl (l.map Fr.encG) .free] ++ kndH b else if 0 ∈ done then gtK h v hs x [.int .i64 0, .int .i64 0, .sl [] .full] ++ kndH b else gtK h v hs x [.int .i64 0, .int .i64 0, .sl [] .full] := ⟨_, rfl⟩
    have hKl : ∀ g, (gtK h v hs x g).length = b := fun g => by rw [hb]; simp [gtK]
    have g0 : ∀ g l, (gtK h v hs x g ++ l)[h.length]? = some (.row [.int .i64 v, .sl (encHl hs) .free] 57) := fun g l => by simp [gtK]
    have g1 : ∀ g l, (gtK h v hs x g ++ l)[h.length + 1]? = some (.row [.int .i64 x.k, .int .i64 x.n, .int .i64 x.no, .str ⟨⟨x.name⟩⟩, .sl (x.l.map encX) .free] 26) := fun g l => by simp [gtK]
    have g2 : ∀ g l, (gtK h v hs x g ++ l)[h.length + 2]? = some (.row g 34) := fun g l => by simp [gtK]
    have s2 : ∀ g g' l, (gtK h v hs x g ++ l).set (h.length + 2) (.row g' 34) = gtK h v hs x g' ++ l := fun g g' l => by simp [gtK]
    have hst : h ++ [.row [.int .i64 v, .sl (encHl hs) .free] 57, .row [.int .i64 x.k, .int .i64 x.n, .int .i64 x.no, .str ⟨⟨x.name⟩⟩, .sl (x.l.map encX) .free] 26, .row [.int .i64 0, .int .i64 0, .sl [] .full] 34] = Hd0 [] := by rw [hHd]; rfl
    rw [hst]
    obtain ⟨val, hval⟩ : ∃ val : Nat → AV, val = fun i => ([.map (some (b + 1)), .ptr (some (h.length + 1, 0)), .int .i64 x.k, fnV b x.k, .agg [.int .i64 v, .sl (encHl hs) .free], .agg [.int .i64 x.k, .int .i64 x.n, .int .i64 x.no, .str ⟨⟨x.name⟩⟩, .sl (x.l.map encX) .free], .agg [.int .i64 p, .int .i64 n, .sl (l.map Fr.encG) .free]] : List AV).getD i .top := ⟨_, rfl⟩
    obtain ⟨Iv, hIv⟩ : ∃ Iv : List Nat → Tm → AH → Prop, Iv = fun done σ h' => lk σ 2 = .ptr (some (h.length, 0)) ∧ lk σ 3 = .ptr (some (h.length + 1, 0)) ∧ lk σ 4 = .ptr (some (h.length + 2, 0)) ∧ (∀ k ∈ done, k < 7 → lk σ (5 + k) = val k) ∧ h' = Hd0 done := ⟨_, rfl⟩
    have stepv : ∀ (k : Nat) (done : List Nat) (σ : Tm) (h' : AH), k < 7 → Iv done σ h' → k ≠ 0 → Iv (k :: done) (put (some (5 + k)) (val k) σ) h' := fun k done σ h' hk hI h0 => by
      rw [hIv] at hI ⊢
      obtain ⟨a1, a2, a3, a4, a5⟩ := hI
      refine ⟨?_, ?_, ?_, fun j hj hj7 => ?_, ?_⟩
      · rw [lk_put_ne (by omega)]; exact a1
      · rw [lk_put_ne (by omega)]; exact a2
      · rw [lk_put_ne (by omega)]; exact a3
      · by_cases e : j = k
        · rw [e, lk_put_self]
        · rw [lk_put_ne (by omega)]
          exact a4 j ((List.mem_cons.1 hj).resolve_left e) hj7
      · rw [a5, hHd]
        simp only [List.mem_cons, show ¬ 7 = k by omega, show ¬ 0 = k by omega, false_or]
    have vals : val 0 = .map (some (b + 1)) ∧ val 1 = .ptr (some (h.length + 1, 0)) ∧ val 2 = .int .i64 x.k ∧ val 3 = fnV b x.k ∧ val 4 = .agg [.int .i64 v, .sl (encHl hs) .free] ∧ val 5 = .agg [.int .i64 x.k, .int .i64 x.n, .int .i64 x.no, .str ⟨⟨x.name⟩⟩, .sl (x.l.map encX) .free] ∧ val 6 = .agg [.int .i64 p, .int .i64 n, .sl (l.map Fr.encG) .free] := by rw [hval]; exact ⟨rfl, rfl, rfl, rfl, rfl, rfl, rfl⟩
    obtain ⟨w0, w1, w2, w3, w4, w5, w6⟩ := vals
    have G0 : ∀ done, (Hd0 done)[h.length]? = some (.row [.int .i64 v, .sl (encHl hs) .free] 57) := fun done => by
      rw [hHd]; simp only
      split
      · exact g0 _ _
      · split
        · exact g0 _ _
        · have := g0 [.int .i64 0, .int .i64 0, .sl [] .full] []; rwa [List.append_nil] at this
    have G1 : ∀ done, (Hd0 done)[h.length + 1]? = some (.row [.int .i64 x.k, .int .i64 x.n, .int .i64 x.no, .str ⟨⟨x.name⟩⟩, .sl (x.l.map encX) .free] 26) := fun done => by
      rw [hHd]; simp only
      split
      · exact g1 _ _
      · split
        · exact g1 _ _
        · have := g1 [.int .i64 0, .int .i64 0, .sl [] .full] []; rwa [List.append_nil] at this
    have H0 : ∀ done, 0 ∉ done → 7 ∉ done → Hd0 done = gtK h v hs x [.int .i64 0, .int .i64 0, .sl [] .full] := fun done e0 e7 => by rw [hHd]; simp only; rw [if_neg e7, if_neg e0]
    have H1 : ∀ done, 0 ∈ done → 7 ∉ done → Hd0 done = gtK h v hs x [.int .i64 0, .int .i64 0, .sl [] .full] ++ kndH b := fun done e0 e7 => by rw [hHd]; simp only; rw [if_neg e7, if_pos e0]
    have H7 : ∀ done, 7 ∈ done → Hd0 done = gtK h v hs x [.int .i64 p, .int .i64 n, .sl (l.map Fr.encG) .free] ++ kndH b := fun done e7 => by rw [hHd]; simp only; rw [if_pos e7]
    refine awp_seq (awp_any_inv [[], [], [1], [0, 2], [], [], [3, 4, 5], [6]] Iv Ty.mixed (by kernel_rfl) (by kernel_rfl) (by kernel_rfl) ?_ ?_ ?_)
    · rw [hIv]
      exact ⟨rfl, rfl, rfl, (fun k hk => by cases hk), rfl⟩
    · intro i op ho2 done σ h' hI hd2 hcl hni C hC
      have hI0 := hI
      rw [hIv] at hI
      obtain ⟨a1, a2, a3, a4, a5⟩ := hI
      rcases i with _ | _ | _ | _ | _ | _ | _ | _ | i
      all_goals simp only [List.getElem?_toArray, List.getElem?_cons_zero, List.getElem?_cons_succ, Option.some.injEq, List.getElem?_nil, reduceCtorEq, Nat.zero_add, Nat.reduceAdd] at ho2
      all_goals subst ho2
      all_goals rw [aOper_plain]
      all_goals subst a5
      · have e7 : 7 ∉ done := fun e => by
          have e6 := hcl 7 e 6 (by decide)
          have e3 := hcl 6 e6 3 (by decide)
          exact hni (hcl 3 e3 0 (by decide))
        rw [H0 done hni e7] at hI0 ⊢
        simp (disch := omega) only [go_sem, seval]
        refine ACalls.detH (kinds_calls Γ _) ?_
        refine hC _ _ ?_
        rw [hIv]
        refine ⟨?_, ?_, ?_, fun j hj hj7 => ?_, ?_⟩
        · rw [lk_put_ne (by omega)]; exact a1
        · rw [lk_put_ne (by omega)]; exact a2
        · rw [lk_put_ne (by omega)]; exact a3
        · rcases List.mem_cons.1 hj with rfl | hj
          · rw [lk_put_self, w0, hKl]
          · have hj0 : j ≠ 0 := fun e => hni (e ▸ hj)
            rw [lk_put_ne (by omega)]; exact a4 j hj hj7
        · rw [H1 (0 :: done) (by simp) (by simp [e7]), hKl]
      · simp (disch := omega) only [go_sem, seval, a2]
        have := stepv 1 done σ _ (by decide) hI0 (by decide)
        rw [w1] at this
        exact hC _ _ this
      · have v1 := (a4 1 (hd2 1 (by decide)) (by decide)).trans w1
        simp (disch := omega) only [go_sem, seval, v1, G1]
        have := stepv 2 done σ _ (by decide) hI0 (by decide)
        rw [w2] at this
        exact hC _ _ this
      · have v0 := (a4 0 (hd2 0 (by decide)) (by decide)).trans w0
        have v2 := (a4 2 (hd2 2 (by decide)) (by decide)).trans w2
        have e7 : 7 ∉ done := fun e => by
          have e6 := hcl 7 e 6 (by decide)
          exact hni (hcl 6 e6 3 (by decide))
        have gm : (Hd0 done)[b + 1]? = some (.map (mEnts (fun n => .int .i64 n) id 0 (kndM b)) 4) := by
          rw [H1 done (hd2 0 (by decide)) e7, List.getElem?_append_right (by rw [hKl]; omega), hKl, show b + 1 - b = 1 by omega]; rfl
        simp (disch := omega) only [go_sem, seval, v0, v2, gm]
        rw [mLook _ _ _ _ x.k (kndM b) (mFind_int _ x.k (kndM b) 0), knd_get b x.k hk]
        have := stepv 3 done σ _ (by decide) hI0 (by decide)
        rw [w3] at this
        exact hC _ _ this
      · simp (disch := omega) only [go_sem, seval, a1, G0]
        have := stepv 4 done σ _ (by decide) hI0 (by decide)
        rw [w4] at this
        exact hC _ _ this
      · simp (disch := omega) only [go_sem, seval, a2, G1]
        have := stepv 5 done σ _ (by decide) hI0 (by decide)
        rw [w5] at this
        exact hC _ _ this
      · have v3 := (a4 3 (hd2 3 (by decide)) (by decide)).trans w3
        have v4 := (a4 4 (hd2 4 (by decide)) (by decide)).trans w4
        have v5 := (a4 5 (hd2 5 (by decide)) (by decide)).trans w5
        have e0 : 0 ∈ done := hcl 3 (hd2 3 (by decide)) 0 (by decide)
        have e7 : 7 ∉ done := fun e => hni (hcl 7 e 6 (by decide))
        have this := stepv 6 done σ _ (by decide) hI0 (by decide)
        rw [w6] at this
        have hrow : ∀ e : x.k = 1 ∨ x.k = 2, (rowH hs x.no).length ≤ 100 := fun e => hl10 _ (rowH_mem (hno e))
        have gk : (Hd0 done)[b]? = some (.row [.func 51 [] []] 87) := by
          rw [H1 done e0 e7, List.getElem?_append_right (by rw [hKl]; omega), hKl, Nat.sub_self]; rfl
        obtain e | e | e | e : x.k = 1 ∨ x.k = 2 ∨ x.k = 3 ∨ x.k = 4 := by omega
        · have hd2' : formG v hs x = .mk (-1) 1 (repG (fun _ => 1) (rowH hs x.no)) := by rw [hd]; rw [if_pos e]
          have c := k2_calls Γ v hs x b (Hd0 done) gk (hno (.inl e)) (hrow (.inl e))
          rw [← hd2', hg, Fr.encG_mk, encCm, cmC, encX_eq, e] at c
          rw [e] at v3 v5
          simp (disch := omega) only [go_sem, seval, show lk σ 8 = .func 52 [] [.ptr (some (b, 0))] from v3, v4, v5]
          refine ACalls.det c ?_
          exact hC _ _ this
        · have hd2' : formG v hs x = .mk (-1) x.n (repG Hd.weight (rowH hs x.no)) := by rw [hd]; rw [if_neg (by omega), if_pos e]
          have c := k3_calls Γ v hs x b (Hd0 done) gk (hno (.inr e)) (hrow (.inr e)) (H.wt _ (rowH_mem (hno (.inr e))))
          rw [← hd2', hg, Fr.encG_mk, encCm, cmC, encX_eq, e] at c
          rw [e] at v3 v5
          simp (disch := omega) only [go_sem, seval, show lk σ 8 = .func 54 [] [.ptr (some (b, 0))] from v3, v4, v5]
          refine ACalls.det c ?_
          exact hC _ _ this
        · have hd2' : formG v hs x = .mk (-1) x.n (x.l.map (formG v hs)) := by rw [hd]; rw [if_neg (by omega), if_neg (by omega), if_pos e]
          have c := k4_calls Γ v hs x (Hd0 done) (by have := okF_of htop e; omega) IH
          rw [← hd2', hg, Fr.encG_mk, encCm, cmC, encX_eq, e] at c
          rw [e] at v3 v5
          simp (disch := omega) only [go_sem, seval, show lk σ 8 = .func 56 [] [] from v3, v4, v5]
          refine ACalls.det c ?_
          exact hC _ _ this
        · have hd2' : formG v hs x = (x.l.map (formG v hs)).getD (if v ≤ x.n then 0 else 1) zeroG := by rw [hd]; rw [if_neg (show ¬ x.k = 1 by omega), if_neg (show ¬ x.k = 2 by omega), if_neg (show ¬ x.k = 3 by omega)]
          have c := k5_calls Γ v hs x (Hd0 done) (okF_upto htop e).1 IH
          rw [← hd2', hg, Fr.encG_mk, encCm, cmC, encX_eq, e] at c
          rw [e] at v3 v5
          simp (disch := omega) only [go_sem, seval, show lk σ 8 = .func 57 [] [] from v3, v4, v5]
          refine ACalls.det c ?_
          exact hC _ _ this
      · have v6 := (a4 6 (hd2 6 (by decide)) (by decide)).trans w6
        have e0 : 0 ∈ done := hcl 3 (hcl 6 (hd2 6 (by decide)) 3 (by decide)) 0 (by decide)
        rw [H1 done e0 hni] at hI0 ⊢
        simp (disch := omega) only [go_sem, seval, a3, v6, g2]
        rw [s2]
        refine hC _ _ ?_
        rw [hIv]
        exact ⟨a1, a2, a3, fun j hj hj7 => a4 j ((List.mem_cons.1 hj).resolve_left (by omega)) hj7, (H7 _ (by simp)).symm⟩
    · intro done σ h' hall hI
      rw [hIv] at hI
      obtain ⟨a1, a2, a3, a4, a5⟩ := hI
      have h7 : 7 ∈ done := hall 7 (by decide)
      have h0 : Hd0 done = gtK h v hs x [.int .i64 p, .int .i64 n, .sl (l.map Fr.encG) .free] ++ kndH b := by rw [hHd]; simp only; rw [if_pos h7]
      rw [a5, h0]
      simp (disch := omega) only [go_sem, seval]
      refine aCode_ok Ty.mixed _ _ _ _ (by kernel_rfl) ?_
      simp (disch := omega) only [go_sem, seval, a3, g2]
      exact ⟨_, by rw [gtK, List.append_assoc]⟩
theorem gate_calls (Γ : Nat → Option (List AV)) (v : Int) (hs : List (List Hd)) (H : HdOK hs []) (o : List Tx) (u : Bool) (ho : o.length = hs.length) (hl10 : ∀ l ∈ hs, l.length ≤ 100) (x : Ex) (hx : okX o u x = true) : GatC Γ v hs x :=
  gate_calls_k Γ v hs H o u ho hl10 _ x (Nat.lt_succ_self _) hx
end Go.Proofs.YtplllkjobpjaoaaGreatDoor
