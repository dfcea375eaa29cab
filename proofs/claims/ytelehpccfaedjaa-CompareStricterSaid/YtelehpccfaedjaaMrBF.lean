/- Texts joined: CmpH. No conditions. -/
import Derived.Test.YtelehpccfaedjaaMrBD
import Derived.Test.YtelehpccfaedjaaMrBC
import Derived.Test.YtelehpccfaedjaaMrAAZ
/- The program's Accepts. No conditions. -/
set_option linter.unusedSimpArgs false
set_option linter.unusedVariables false
namespace Go.Proofs.Ytelehpccfaedjaa
open Go Go.Proofs Go.Abs

def oddF (n : Nat) (k : Int) : Bool := decide (k < 0) || decide ((n : Int) ≤ k)
set_option maxRecDepth 100000 in
theorem odd_calls (Γ : Nat → Option (List AV)) (l : List (List Int)) (k : Int) (c : Nat) (h : AH) (hh : h[c]? = some (.row [.sl (encII l) .free] 55)) :
    ACalls Try.prog Γ 74 [.int .i64 k, .ptr (some (c, 0))] h fun v h' => h' = h ∧ v = .bool (oddF l.length k) := by
  refine ACalls.drop ?_
  refine acalls_code (rs := [.tmp 3]) Try.func74 rfl rfl rfl rfl Ty.mixed (by kernel_rfl) ?_
  simp (disch := omega) only [go_sem, seval, hh, encII_len]
  refine aIf.intro (fun h1 => ?_) (fun h1 => ?_) <;> simp (disch := omega) only [go_sem, seval, hh, encII_len]
  · simp [oddF, h1]
  · simp [oddF, h1]
theorem holds_shape {g : Gt} (h : checkF g = 0) (s : List Int) : holdsR g s = (ascF (-1) s && permF g s, if ascF (-1) s = true then 0 else 1) := by
  cases hs : ascF (-1) s <;> simp [permF, holdsR, h, hs]
theorem odd_all {L : List (List Int)} : ∀ {S : List (List Int)} {ins : List Int}, insL L S ins = true → ∀ k ∈ ins, oddF L.length k = false
  | [], [], _, k, hk => by simp at hk
  | [], _ :: _, h, _, _ => by simp [insL] at h
  | _ :: _, [], h, _, _ => by simp [insL] at h
  | _ :: S, j :: ins, h, k, hk => by
    rw [insL, Bool.and_eq_true, Bool.and_eq_true, decide_eq_true_eq] at h
    rcases List.mem_cons.1 hk with rfl | hk
    · simp only [oddF, Bool.or_eq_false_iff, decide_eq_false_iff_not]; omega
    · exact odd_all h.2 k hk
theorem lk_sub (σ : Tm) : ∀ (σ' : Tm), (∀ p ∈ σ', lk σ p.1 = p.2) → ∀ i, lk σ' i = lk σ i ∨ lk σ' i = .top
  | [], _, i => .inr rfl
  | (j, v) :: r, h, i => by
    rw [lk_cons]
    split
    · rename_i e; subst e; exact .inl (h (i, v) (by simp)).symm
    · exact lk_sub σ r (fun p hp => h p (by simp [hp])) i
set_option maxHeartbeats 3200000 in
set_option maxRecDepth 100000 in
theorem accepts_calls (Γ : Nat → Option (List AV)) (old now : Gt) (l : List (List Int)) (ins : List Int) (h : AH) (ho : Sh old) (hn : Sh now) (hl : l.length ≤ 1000000) (hb : ∀ a ∈ l, a.length ≤ 1000000) (hi : ins.length ≤ 1000000) :
    ACalls Try.prog Γ 33 [encG old, encG now, .sl (encII l) .free, .sl (encI ins) .free] h fun v h' => h' = h ∧ v = encAc (accC old now l ins) := by
  have c1 := fun h => check_calls Γ old h ho
  have c2 := fun h => psets_calls Γ now h hn
  have c3 := fun s (hs : s.length ≤ 1000000) h => Holds_calls Γ old s h ho (by omega)
  have hsh := fun (hc : checkF old = 0) s => holds_shape hc s
  have b2 : ∀ s ∈ (smallR now false).1, s.length ≤ 1000000 := fun s hs => by have := small_in hs; omega
  have hls := small_le now false
  rw [accC, encAc]
  simp only [encS] at c2
  simp only [encR] at c3
  simp only [okL]
  generalize checkF old = ce at *
  generalize smallR now false = S at *
  obtain ⟨S, e⟩ := S
  simp only at c2 hls b2 ⊢
  generalize holdsR old = hr at *
  generalize permF old = pf at *
  cases old with | mk p n gl =>
  cases now with | mk p2 n2 gl2 =>
  simp only [encG_mk] at c1 c2 c3 ⊢
  refine ACalls.dropL ?_
  refine acalls_defer2 (rs := [.tmp 8, .cell 9 26]) (h.length + 4) 33 Try.func33 rfl rfl rfl rfl (by kernel_rfl) (by kernel_rfl) (by kernel_rfl) ?_
  simp (disch := omega) only [go_sem, seval]
  refine ACallsX.det (c1 _) ?_
  simp (disch := omega) only [go_sem, seval]
  by_cases hc : ce = 0
  rotate_left
  · refine ACallsX.pan (mustI_pan Γ _ _ _ _ hc (by simp)) ?_
    simp (disch := omega) only [go_sem, seval]
    rw [dead_same (by simp)]
    refine endF_panic (errV ce) (errV_exact ce) (callsD_mono (caught_some Γ _ _ _ _ (by simp; rfl)) ?_)
    rintro _ rfl
    simp (disch := omega) only [go_sem, seval]
    rw [if_neg hc]
  subst hc
  refine ACallsX.det (mustI_calls Γ _ _ (.int ..)) ?_
  simp (disch := omega) only [go_sem, seval]
  refine ACallsX.det (c2 _) ?_
  simp (disch := omega) only [go_sem, seval]
  by_cases hc : e = 0
  rotate_left
  · refine ACallsX.pan (mustS_pan Γ _ _ _ _ hc (by simp)) ?_
    simp (disch := omega) only [go_sem, seval]
    rw [dead_same (by simp)]
    refine endF_panic (errV e) (errV_exact e) (callsD_mono (caught_some Γ _ _ _ _ (by simp; rfl)) ?_)
    rintro _ rfl
    simp (disch := omega) only [go_sem, seval]
    simp only [if_neg hc]
  subst hc
  have hsh := hsh rfl
  refine ACallsX.det (mustS_calls Γ _ _ (rb_II .. ▸ trivial)) ?_
  simp (disch := omega) only [go_sem, seval, encII_len]
  try simp only [if_true]
  refine aIf.intro (fun hc => ?_) (fun hc => ?_)
  · simp (disch := omega) only [go_sem, seval]
    refine callsD_mono (caught_none Γ _ _) ?_
    rintro _ rfl
    simp (disch := omega) only [go_sem, seval]
    rw [if_pos (by omega)]
  have hl256 : ¬ 256 < l.length := by omega
  rw [if_neg hl256]
  simp (disch := omega) only [go_sem, seval, encII_len]
  obtain ⟨K, hK⟩ : ∃ K : AH, K = h ++ [.row [.int .i64 p, .int .i64 n, .sl (gl.map encG) .free] 54, .row [.int .i64 p2, .int .i64 n2, .sl (gl2.map encG) .free] 54, .row [.sl (encII l) .free] 55, .row [.int .i64 0] 26] := ⟨_, rfl⟩
  have Klen : K.length = h.length + 4 := by subst hK; simp
  have KD : ∀ X : AH, ∃ j, K ++ X = h ++ j := fun X => by subst hK; exact ⟨_, List.append_assoc ..⟩
  have KD0 : ∃ j, K = h ++ j := by subst hK; exact ⟨_, rfl⟩
  have Kg : ∀ X : AH, (K ++ X)[h.length]? = some (.row [.int .i64 p, .int .i64 n, .sl (gl.map encG) .free] 54) := fun X => by subst hK; simp
  have Kl : ∀ X : AH, (K ++ X)[h.length + 2]? = some (.row [.sl (encII l) .free] 55) := fun X => by subst hK; simp
  have Kc : ∀ X : AH, (K ++ X)[h.length + 3]? = some (.row [.int .i64 0] 26) := fun X => by subst hK; simp
  have Ks : ∀ X : AH, (K ++ X).set (h.length + 3) (.row [.int .i64 0] 26) = K ++ X := fun X => by subst hK; rw [List.append_assoc, hset_add]; rfl
  have Kg0 := Kg []
  have Kl0 := Kl []
  have Kc0 := Kc []
  have Ks0 := Ks []
  rw [List.append_nil] at Kg0 Kl0 Kc0 Ks0
  rw [← hK]
  simp only [hsh] at c3
  have Q0 : ∀ b : Bool, ((l.all fun who => ascF (-1) who && pf who) && insL l S ins) = b → AV.tuple [.bool b, .int .i64 0] = .tuple [.bool ((l.all fun who => ascF (-1) who && pf who) && insL l S ins), .int .i64 0] := fun b e => by rw [e]
  refine BWP.of (awp_loopL (β := Unit) l [3, 4, 6, 9, 10, 29, 30, 31] (fun don _ => [(3, .sl (encI ins) .free), (4, .ptr (some (h.length, 0))), (6, .ptr (some (h.length + 2, 0))), (9, .ptr (some (h.length + 3, 0))), (10, .sl (encII S) .free), (29, .sl (encII l) .free), (30, .int .i64 l.length), (31, .int .i64 don.length)])
    (fun _ => K) (fun don _ _ => ∀ s ∈ don, (ascF (-1) s && pf s) = true) () ?_ rfl (by simp) Ty.mixed (by kernel_rfl) ?_ ?_)
  · simp (disch := omega) only [go_sem, seval, encII_len]
  · rintro don x r _ hd hs
    have hlen : l.length = don.length + 1 + r.length := by rw [hd]; simp; omega
    have e1 : (encII l)[don.length]? = some (.sl (encI x) .free) := by rw [hd]; exact encII_get don r x
    have hx := hb x (by rw [hd]; simp)
    have c4 := c3 x hx
    simp (disch := omega) only [go_sem, seval, encII_len]
    refine aIf.pos (by omega) ?_
    simp (disch := omega) only [go_sem, seval, e1, Kg0]
    refine ACalls.det (c4 _) ?_
    have bad : (ascF (-1) x && pf x) = false → ((l.all fun who => ascF (-1) who && pf who) && insL l S ins) = false := fun e => by rw [List.all_eq_false.2 ⟨x, by rw [hd]; simp, by rw [e]; simp⟩]; rfl
    cases ha : ascF (-1) x with
    | false =>
      simp only [Bool.false_and, Bool.false_eq_true, if_false]
      simp (disch := omega) only [go_sem, seval, Ks0, Kc0]
      refine callsD_mono (caught_none Γ _ _) ?_
      rintro _ rfl
      simp (disch := omega) only [go_sem, seval, Kc0]
      exact ⟨KD0, Q0 _ (bad (by rw [ha]; rfl))⟩
    | true =>
      cases hp : pf x with
      | false =>
        simp only [Bool.and_false, if_true]
        simp (disch := omega) only [go_sem, seval, Ks0, Kc0]
        refine callsD_mono (caught_none Γ _ _) ?_
        rintro _ rfl
        simp (disch := omega) only [go_sem, seval, Kc0]
        exact ⟨KD0, Q0 _ (bad (by rw [ha, hp]; rfl))⟩
      | true =>
        simp only [Bool.and_true, if_true]
        simp (disch := omega) only [go_sem, seval]
        refine roundL_next () ?_ ?_ rfl
        · intro z hz
          rcases List.mem_append.1 hz with hz | hz
          · exact hs z hz
          · simp at hz; subst hz; rw [ha, hp]; rfl
        · simp (disch := omega) only [go_sem, seval, List.length_append]
  · intro _ hs
    have hall : (l.all fun who => ascF (-1) who && pf who) = true := List.all_eq_true.2 hs
    rw [hall] at Q0 ⊢
    simp only [Bool.true_and] at Q0 ⊢
    simp (disch := omega) only [go_sem, seval]
    refine BWP.keep [3, 6, 9, 10] ?_
    refine bCode_ok (B := h.length + 4) _ _ _ _ (by kernel_rfl) ?_
    simp (disch := omega) only [go_sem, seval, encII_len, encI_len]
    refine aIf.intro (fun h1 => ?_) (fun h1 => ?_)
    rotate_left
    · simp (disch := omega) only [go_sem, seval, Ks0, Kc0]
      refine callsD_mono (caught_none Γ _ _) ?_
      rintro _ rfl
      simp (disch := omega) only [go_sem, seval, Kc0]
      refine ⟨KD0, Q0 _ ?_⟩
      cases hx : insL l S ins with
      | false => rfl
      | true => exact absurd (ins_len hx) (by omega)
    have h1' : ins.length = S.length := by omega
    simp (disch := omega) only [go_sem, seval]
    refine ACallsX.det (firstI_calls Γ ins (oddF l.length) _ [] _ _ (by omega) (fun k _ => odd_calls Γ l k _ _ Kl0)) ?_
    simp (disch := omega) only [go_sem, seval]
    have hfx := fidx_find (oddF l.length) ins
    cases hf : fidx (oddF l.length) ins with
    | some j =>
      rw [hf] at hfx
      rw [fidI]
      refine aIf.pos (by omega) ?_
      simp (disch := omega) only [go_sem, seval, Ks0, Kc0]
      refine callsD_mono (caught_none Γ _ _) ?_
      rintro _ rfl
      simp (disch := omega) only [go_sem, seval, Kc0]
      refine ⟨KD0, Q0 _ ?_⟩
      cases hx : insL l S ins with
      | false => rfl
      | true =>
        obtain ⟨k, q1, q2⟩ := List.find?_isSome.1 hfx.2
        rw [odd_all hx k q1] at q2; cases q2
    | none =>
      rw [hf] at hfx
      have hodd : ∀ k ∈ ins, oddF l.length k = false := fun k hk => by have := List.find?_eq_none.1 hfx k hk; simpa using this
      rw [fidI]
      simp (disch := omega) only [go_sem, seval, encI_len]
      refine BWP.of (awp_loopW ins [3, 6, 9, 10, 58, 59, 60] (fun don => [(3, .sl (encI ins) .free), (6, .ptr (some (h.length + 2, 0))), (9, .ptr (some (h.length + 3, 0))), (10, .sl (encII S) .free), (58, .sl (encI ins) .free), (59, .int .i64 ins.length), (60, .int .i64 don.length)])
        (fun don _ hx => ∃ X, hx = K ++ X ∧ insL l (S.take don.length) don = true) ?_ ⟨[], by simp, by simp [insL]⟩ ?_ ?_)
      · simp (disch := omega) only [go_sem, seval, encI_len]
      · rintro don k r hx hd ⟨X, rfl, hin⟩
        have hlen : ins.length = don.length + 1 + r.length := by rw [hd]; simp; omega
        have ek : ins[don.length]? = some k := by rw [hd]; simp
        have e0 : (encI ins)[don.length]? = some (.int .i64 k) := by simp [encI, ek]
        have hko := hodd k (by rw [hd]; simp)
        simp only [oddF, Bool.or_eq_false_iff, decide_eq_false_iff_not] at hko
        obtain ⟨i, rfl⟩ : ∃ i : Nat, k = i := ⟨k.toNat, by omega⟩
        have hil : i < l.length := by omega
        have hdS : don.length < S.length := by omega
        obtain ⟨y, hy⟩ : ∃ y, y = l[i] := ⟨_, rfl⟩
        obtain ⟨x, hx⟩ : ∃ x, x = S[don.length] := ⟨_, rfl⟩
        have e3 : (encII l)[i]? = some (.sl (encI y) .free) := by simp [encII, hil, hy]
        have e2 : (encII S)[don.length]? = some (.sl (encI x) .free) := by simp [encII, hdS, hx]
        have hyl := hb y (by rw [hy]; exact List.getElem_mem hil)
        have hxl := b2 x (by rw [hx]; exact List.getElem_mem hdS)
        have ein : in1 l x i = prtF y x := by rw [in1, decide_eq_true (by omega), Bool.true_and, Int.toNat_natCast, List.getD_eq_getElem?_getD, List.getElem?_eq_getElem hil, Option.getD_some, hy]
        have etk : S.take (don.length + 1) = S.take don.length ++ [x] := by rw [List.take_succ_eq_append_getElem hdS, hx]
        refine awp_seq (aCode_ok Ty.mixed _ _ _ _ (by kernel_rfl) ?_)
        simp (disch := omega) only [go_sem, seval]
        refine awp_seq (aCode_ok Ty.mixed _ _ _ _ (by kernel_rfl) ?_)
        simp (disch := omega) only [go_sem, seval]
        refine aIf.pos (by omega) ?_
        simp (disch := omega) only [go_sem, seval]
        refine awp_seq (awp_block (awp_seq (aCode_ok Ty.mixed _ _ _ _ (by kernel_rfl) ?_)))
        simp (disch := omega) only [go_sem, seval, e0]
        have bad : prtF y x = false → insL l S ins = false := fun e => by
          cases hx : insL l S ins with
          | false => rfl
          | true => exact absurd (insL_at hx don.length x i (by simp [hdS, *]) ek) (by rw [ein, e]; simp)
        refine awp_seq ?_
        obtain ⟨H, hH⟩ : ∃ H : List Nat → AH, H = fun done => if 4 ∈ done then K ++ X ++ prO (K ++ X).length x else K ++ X := ⟨_, rfl⟩
        have H0 : K ++ X = H [] := by rw [hH]; simp
        rw [H0]
        refine awp_any_vals [[], [], [0, 1], [2], [3], [], [], [5, 6], [7], [4, 8], [9]] [3, 6, 9, 10, 16, 17, 58, 59, 60] (fun q => [.sl (encII S) .free, .int .i64 don.length, .eptr [.sl (encI x) .free], .sl (encI x) .free, prV ((K ++ X).length + 1), .sl (encII l) .free, .int .i64 i, .eptr [.sl (encI y) .free], .sl (encI y) .free, .bool (prtF y x), .bool (!prtF y x)].getD q .top) H Ty.mixed (by kernel_rfl) (by kernel_rfl) (by kernel_rfl) (by kernel_rfl) ?_ ?_
        · intro q o ho done σ hd _ hni hf hv C hC
          have f10 : lk σ 10 = .sl (encII S) .free := (hf 10 (by decide)).trans rfl
          have f16 : lk σ 16 = .int .i64 don.length := (hf 16 (by decide)).trans rfl
          have f17 : lk σ 17 = .int .i64 i := (hf 17 (by decide)).trans rfl
          have f6 : lk σ 6 = .ptr (some (h.length + 2, 0)) := (hf 6 (by decide)).trans rfl
          have el : (H done)[h.length + 2]? = some (.row [.sl (encII l) .free] 55) := by
            rw [hH]; simp only; split
            · rw [List.append_assoc]; exact Kl _
            · exact Kl _
          have eH : ∀ q, q ≠ 4 → H (q :: done) = H done := fun q hq => by
            rw [hH]; simp only [List.mem_cons]; simp [Ne.symm hq]
          rcases q with _ | _ | _ | _ | _ | _ | _ | _ | _ | _ | _ | q
          all_goals simp only [List.getElem?_toArray, List.getElem?_cons_zero, List.getElem?_cons_succ, Option.some.injEq, List.getElem?_nil, reduceCtorEq, Nat.zero_add, Nat.reduceAdd] at ho
          all_goals subst ho
          all_goals rw [aOper_plain]
          · rw [eH _ (by decide)] at hC; simp (disch := omega) only [go_sem, seval, f10]; exact hC
          · rw [eH _ (by decide)] at hC; simp (disch := omega) only [go_sem, seval, f16]; exact hC
          · rw [eH _ (by decide)] at hC
            have v0 : lk σ 65 = .sl (encII S) .free := hv 0 (hd 0 (by decide)) (by decide)
            have v1 : lk σ 66 = .int .i64 don.length := hv 1 (hd 1 (by decide)) (by decide)
            simp (disch := omega) only [go_sem, seval, v0, v1, e2]; exact hC
          · rw [eH _ (by decide)] at hC
            have v2 : lk σ 67 = .eptr [.sl (encI x) .free] := hv 2 (hd 2 (by decide)) (by decide)
            simp (disch := omega) only [go_sem, seval, v2]; exact hC
          · have v3 : lk σ 68 = .sl (encI x) .free := hv 3 (hd 3 (by decide)) (by decide)
            have e4 : H done = K ++ X := by rw [hH]; simp only; rw [if_neg hni]
            have e5 : H (4 :: done) = K ++ X ++ prO (K ++ X).length x := by rw [hH]; simp
            rw [e5] at hC
            rw [e4]
            simp (disch := omega) only [go_sem, seval, v3]
            refine ACalls.detH (part_calls Γ x _ (by omega)) ?_
            exact hC
          · rw [eH _ (by decide)] at hC; simp (disch := omega) only [go_sem, seval, f6, el]; exact hC
          · rw [eH _ (by decide)] at hC; simp (disch := omega) only [go_sem, seval, f17]; exact hC
          · rw [eH _ (by decide)] at hC
            have v5 : lk σ 70 = .sl (encII l) .free := hv 5 (hd 5 (by decide)) (by decide)
            have v6 : lk σ 71 = .int .i64 i := hv 6 (hd 6 (by decide)) (by decide)
            simp (disch := omega) only [go_sem, seval, v5, v6, e3]; exact hC
          · rw [eH _ (by decide)] at hC
            have v7 : lk σ 72 = .eptr [.sl (encI y) .free] := hv 7 (hd 7 (by decide)) (by decide)
            simp (disch := omega) only [go_sem, seval, v7]; exact hC
          · have v4 : lk σ 69 = prV ((K ++ X).length + 1) := hv 4 (hd 4 (by decide)) (by decide)
            have v8 : lk σ 73 = .sl (encI y) .free := hv 8 (hd 8 (by decide)) (by decide)
            have e4 : H done = K ++ X ++ prO (K ++ X).length x := by rw [hH]; simp only; rw [if_pos (hd 4 (by decide))]
            rw [eH _ (by decide)] at hC
            have z0 : (H done)[(K ++ X).length]? = some (mapO (wkC [] x)) := by rw [e4]; simp [prO]
            have z1 : (H done)[(K ++ X).length + 1]? = some (.row [.map (some (K ++ X).length)] 82) := by
              rw [e4, List.getElem?_append_right (by omega), Nat.add_sub_cancel_left]; rfl
            obtain ⟨M, hM⟩ : ∃ M, M = (K ++ X).length := ⟨_, rfl⟩
            rw [← hM] at z0 z1 v4
            rw [prV] at v4
            simp (disch := omega) only [go_sem, seval, v4, v8]
            refine ACalls.det (isPart_calls Γ y x (M + 1) M _ (by omega) z1 z0) ?_
            exact hC
          · rw [eH _ (by decide)] at hC
            have v9 : lk σ 74 = .bool (prtF y x) := hv 9 (hd 9 (by decide)) (by decide)
            simp (disch := omega) only [go_sem, seval, v9]; exact hC
        · intro done σ hd hf hv
          have v10 : lk σ 75 = .bool (!prtF y x) := hv 10 (by decide)
          have e4 : H done = K ++ X ++ prO (K ++ X).length x := by rw [hH]; simp only; rw [if_pos (hd 4 (by decide))]
          rw [e4, List.append_assoc]
          obtain ⟨Y, hY⟩ : ∃ Y, Y = X ++ prO (K ++ X).length x := ⟨_, rfl⟩
          rw [← hY]
          simp (disch := omega) only [go_sem, seval]
          refine AWP.weaken (σ' := [(3, .sl (encI ins) .free), (6, .ptr (some (h.length + 2, 0))), (9, .ptr (some (h.length + 3, 0))), (10, .sl (encII S) .free), (58, .sl (encI ins) .free), (59, .int .i64 ins.length), (60, .int .i64 don.length), (75, .bool (!prtF y x))]) ?_ (lk_sub σ _ ?_)
          rotate_left
          · intro p hp
            simp only [List.mem_cons, List.not_mem_nil, or_false] at hp
            rcases hp with rfl | rfl | rfl | rfl | rfl | rfl | rfl | rfl
            · exact (hf 3 (by decide)).trans rfl
            · exact (hf 6 (by decide)).trans rfl
            · exact (hf 9 (by decide)).trans rfl
            · exact (hf 10 (by decide)).trans rfl
            · exact (hf 58 (by decide)).trans rfl
            · exact (hf 59 (by decide)).trans rfl
            · exact (hf 60 (by decide)).trans rfl
            · exact v10
          cases hp : prtF y x with
          | false =>
            refine aCode_ok Ty.mixed _ _ _ _ (by kernel_rfl) ?_
            simp (disch := omega) only [go_sem, seval, Ks, Kc]
            refine callsD_mono (caught_none Γ _ _) ?_
            rintro _ rfl
            simp (disch := omega) only [go_sem, seval, Kc]
            exact ⟨KD _, Q0 _ (bad hp)⟩
          | true =>
            refine aCode_ok Ty.mixed _ _ _ _ (by kernel_rfl) ?_
            simp (disch := omega) only [go_sem, seval]
            refine aCode_ok Ty.mixed _ _ _ _ (by kernel_rfl) ?_
            simp (disch := omega) only [go_sem, seval, List.length_append]
            refine ⟨Y, rfl, ?_⟩
            rw [etk, insL_app _ _ _ _ _ (by simp; omega), hin, Bool.true_and, insL, insL, Bool.and_true]
            exact ein.trans hp
      · rintro hx ⟨X, rfl, hin⟩
        refine awp_seq (aCode_ok Ty.mixed _ _ _ _ (by kernel_rfl) ?_)
        simp (disch := omega) only [go_sem, seval]
        refine awp_seq (aCode_ok Ty.mixed _ _ _ _ (by kernel_rfl) ?_)
        simp (disch := omega) only [go_sem, seval]
        refine BWP.keep [9] ?_
        refine bCode_ok (B := h.length + 4) _ _ _ _ (by kernel_rfl) ?_
        simp (disch := omega) only [go_sem, seval, Ks, Kc]
        refine callsD_mono (caught_none Γ _ _) ?_
        rintro _ rfl
        simp (disch := omega) only [go_sem, seval, Kc]
        rw [h1', List.take_length] at hin
        exact ⟨KD _, Q0 _ hin⟩
end Go.Proofs.Ytelehpccfaedjaa
