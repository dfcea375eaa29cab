/- Texts joined: CmpG. No conditions. -/
import Derived.Test.YtelehpccfaedjaaMrBD
import Derived.Test.YtelehpccfaedjaaMrBC
/- The program's Less. No conditions. -/
set_option linter.unusedSimpArgs false
set_option linter.unusedVariables false
namespace Go.Proofs.Ytelehpccfaedjaa
open Go Go.Proofs Go.Abs

def ArStep (j j' : AH) : Prop := (∃ n, j' = j ++ [.arena n]) ∨ ∃ q m n, j[q]? = some (.arena m) ∧ j' = j.set q (.arena n)
theorem aAp_ar {n by_ : Nat} {rows xs : List AV} {own : Abs.Own} {x : AV} {K j : AH} {C : AV → AH → Prop} (ho : OwnAt K j rows.length own) (hx : SrcIs x (K ++ j) xs) (h1 : RowsOK n rows) (h2 : RowsOK n xs)
    (h3 : rows.length + xs.length ≤ 9223372036854775807) (h4 : (rows.length + xs.length) * by_ ≤ 140737488355328)
    (H : ∀ j' own', OwnAt K j' (rows.length + xs.length) own' → ArStep j j' → C (.sl (rows ++ xs) own') (K ++ j')) : aAp (some (n, by_)) (.sl rows own) x (K ++ j) C := by
  refine ⟨xs, hx, h1, h2, h3, h4, ?_⟩
  cases own with
  | free => exact ho.elim
  | full =>
    have := H (j ++ [.arena (rows.length + xs.length)]) (.arena (K.length + j.length)) ⟨j.length, rfl, by simp⟩ (.inl ⟨_, rfl⟩)
    simpa [List.append_assoc] using this
  | arena i =>
    obtain ⟨i', rfl, e⟩ := ho
    have e' : (K ++ j)[K.length + i']? = some (.arena rows.length) := by rw [hget_add]; exact e
    show (match (K ++ j)[K.length + i']? with
      | some (.arena m) => m = rows.length ∧ C (.sl (rows ++ xs) (.arena (K.length + i'))) ((K ++ j).set (K.length + i') (.arena (rows.length + xs.length)))
      | _ => False)
    rw [e']
    refine ⟨rfl, ?_⟩
    rw [hset_add]
    have hi : i' < j.length := (List.getElem?_eq_some_iff.1 e).1
    exact H _ _ ⟨i', rfl, by rw [List.getElem?_set_self hi]⟩ (.inr ⟨i', _, _, e, rfl⟩)
theorem ArStep.kept {j j' : AH} (h : ArStep j j') (b : Nat) (H : AH) : Kept b (H ++ j) (H ++ j') := by
  rcases h with ⟨n, rfl⟩ | ⟨q, m, n, e, rfl⟩
  · rw [← List.append_assoc]
    exact .app b _ (fun ob ho st pe li e => by rw [List.mem_singleton] at ho; subst ho; cases e)
  · rw [← hset_add]
    have e' : (H ++ j)[H.length + q]? = some (.arena m) := by rw [hget_add]; exact e
    refine ⟨by simp, fun k c T hb hf ek => ?_, fun k st pe li hb => ?_, fun k st pe li ek => ?_⟩
    · rw [List.getElem?_set_ne (fun e2 => by subst e2; rw [e'] at ek; cases ek)]; exact ek
    · by_cases hk : H.length + q = k
      · subst hk
        rw [e', List.getElem?_set_self (hget_of e')]
        constructor <;> intro e2 <;> cases e2
      · rw [List.getElem?_set_ne hk]
    · by_cases hk : H.length + q = k
      · subst hk; rw [List.getElem?_set_self (hget_of e')] at ek; cases ek
      · rw [List.getElem?_set_ne hk] at ek; exact ⟨_, _, _, ek⟩
/-- Less's heap. -/
def leK (h : AH) (G G2 : AObj) (a b c : AV) (lo : AObj) (X : AH) : AH := h ++ ([G, G2, .row [a] 29, .row [b] 4, .row [c] 26, lo] ++ X)
section
variable {h : AH} {G G2 : AObj} {a b c : AV} {lo : AObj} {X : AH}
theorem le_len : (leK h G G2 a b c lo X).length = h.length + 6 + X.length := by simp [leK]; omega
theorem le_L : (leK h G G2 a b c lo X)[h.length + 5]? = some lo := by simp [leK]
theorem le_a (x : AV) : (leK h G G2 a b c lo X).set (h.length + 2) (.row [x] 29) = leK h G G2 x b c lo X := by rw [leK, hset_add]; rfl
theorem le_b (x : AV) : (leK h G G2 a b c lo X).set (h.length + 3) (.row [x] 4) = leK h G G2 a x c lo X := by rw [leK, hset_add]; rfl
theorem le_c (x : AV) : (leK h G G2 a b c lo X).set (h.length + 4) (.row [x] 26) = leK h G G2 a b x lo X := by rw [leK, hset_add]; rfl
theorem le_set (x : AObj) : (leK h G G2 a b c lo X).set (h.length + 5) x = leK h G G2 a b c x X := by rw [leK, hset_add]; rfl
theorem le_ga : (leK h G G2 a b c lo X)[h.length + 2]? = some (.row [a] 29) := by simp [leK]
theorem le_gb : (leK h G G2 a b c lo X)[h.length + 3]? = some (.row [b] 4) := by simp [leK]
theorem le_gc : (leK h G G2 a b c lo X)[h.length + 4]? = some (.row [c] 26) := by simp [leK]
theorem le_app (Y : AH) : leK h G G2 a b c lo X ++ Y = leK h G G2 a b c lo (X ++ Y) := by simp [leK]
end
theorem OwnAt.len {K K' j : AH} {n : Nat} {own : Abs.Own} (ho : OwnAt K j n own) (e : K.length = K'.length) : OwnAt K' j n own := by
  cases own with
  | full => trivial
  | free => exact ho
  | arena i => obtain ⟨i', h1, h2⟩ := ho; exact ⟨i', by rw [h1, e], h2⟩
set_option maxHeartbeats 1600000 in
set_option maxRecDepth 100000 in
theorem pless_calls (Γ : Nat → Option (List AV)) (old now : Gt) (h : AH) (ho : Sh old) (hn : Sh now) :
    ACalls Try.prog Γ 31 [encG old, encG now] h fun v h' => h' = h ∧ v = encL (lessR old now) := by
  have c1 := fun h => psets_calls Γ old h ho
  have c2 := fun h => psets_calls Γ now h hn
  have b1 : ∀ s ∈ (smallR old false).1, s.length ≤ 1000000 := fun s hs => by have := small_in hs; omega
  have b2 : ∀ s ∈ (smallR now false).1, s.length ≤ 1000000 := fun s hs => by have := small_in hs; omega
  have hl := small_le now false
  have hl1 := small_le old false
  rw [lessR, encL]
  simp only [encS] at c1 c2
  generalize smallR now false = S at *
  obtain ⟨S, e⟩ := S
  generalize smallR old false = L at *
  obtain ⟨L, e'⟩ := L
  simp only at c1 c2 hl hl1 b1 b2 ⊢
  cases old with | mk p n gl =>
  cases now with | mk p2 n2 gl2 =>
  simp only [encG_mk, AV.cells] at c1 c2 ⊢
  refine ACalls.dropL ?_
  refine acalls_defer2 (rs := [.cell 4 29, .cell 5 4, .cell 6 26]) (h.length + 5) 31 Try.func31 rfl rfl rfl rfl (by kernel_rfl) (by kernel_rfl) (by kernel_rfl) ?_
  simp (disch := omega) only [go_sem, seval]
  refine ACallsX.det (c1 _) ?_
  simp (disch := omega) only [go_sem, seval]
  by_cases hc : e' = 0
  rotate_left
  · refine ACallsX.pan (mustS_pan Γ _ _ _ _ hc (by simp)) ?_
    simp (disch := omega) only [go_sem, seval]
    rw [dead_same (by simp)]
    refine endF_panic (errV e') (errV_exact e') (callsD_mono (caught_some Γ _ _ _ _ (by simp; rfl)) ?_)
    rintro _ rfl
    simp (disch := omega) only [go_sem, seval]
    simp only [if_neg hc]
    rfl
  subst hc
  refine ACallsX.det (mustS_calls Γ _ _ (rb_II .. ▸ trivial)) ?_
  simp (disch := omega) only [go_sem, seval]
  refine ACallsX.det (c2 _) ?_
  simp (disch := omega) only [go_sem, seval]
  by_cases hc : e = 0
  rotate_left
  · refine ACallsX.pan (mustS_pan Γ _ _ _ _ hc (by simp)) ?_
    simp (disch := omega) only [go_sem, seval]
    rw [dead_same (by simp)]
    refine endF_panic (errV e) (errV_exact e) (callsD_mono (caught_some Γ _ _ _ _ (by simp; rfl)) ?_)
    rintro _ rfl
    simp (disch := omega) only [go_sem, seval]
    simp only [if_neg hc]
    rfl
  subst hc
  refine ACallsX.det (mustS_calls Γ _ _ (rb_II .. ▸ trivial)) ?_
  simp (disch := omega) only [go_sem, seval]
  refine ACallsX.det (inner_calls Γ S L _) ?_
  simp (disch := omega) only [go_sem, seval, innerV]
  try simp only [if_true]
  refine BWP.keep [4, 5, 6, 21] ?_
  simp (disch := omega) only [go_sem, seval]
  refine BWP.of (awp_rangeFuncNL rfl (fun li hli => ?_))
  obtain ⟨L1, hL1⟩ : ∃ L1, L1 = h.length + 5 := ⟨_, rfl⟩
  obtain ⟨K, hK⟩ : ∃ K : AV → AV → AV → AObj → AH → AH, K = leK h (.row [.int .i64 p, .int .i64 n, .sl (gl.map encG) .free] 54) (.row [.int .i64 p2, .int .i64 n2, .sl (gl2.map encG) .free] 54) := ⟨_, rfl⟩
  have Klen : ∀ a b c lo X, (K a b c lo X).length = L1 + 1 + X.length := fun a b c lo X => by rw [hK, le_len, hL1]
  have KL : ∀ a b c lo X, (K a b c lo X)[L1]? = some lo := fun a b c lo X => by rw [hK, hL1, le_L]
  have Ka : ∀ a b c lo X, (K a b c lo X)[h.length + 2]? = some (.row [a] 29) := fun a b c lo X => by rw [hK, le_ga]
  have Kb : ∀ a b c lo X, (K a b c lo X)[h.length + 3]? = some (.row [b] 4) := fun a b c lo X => by rw [hK, le_gb]
  have Kc : ∀ a b c lo X, (K a b c lo X)[h.length + 4]? = some (.row [c] 26) := fun a b c lo X => by rw [hK, le_gc]
  have Sa : ∀ a b c lo X x, (K a b c lo X).set (h.length + 2) (.row [x] 29) = K x b c lo X := fun a b c lo X x => by rw [hK, le_a]
  have Sb : ∀ a b c lo X x, (K a b c lo X).set (h.length + 3) (.row [x] 4) = K a x c lo X := fun a b c lo X x => by rw [hK, le_b]
  have Sc : ∀ a b c lo X x, (K a b c lo X).set (h.length + 4) (.row [x] 26) = K a b x lo X := fun a b c lo X x => by rw [hK, le_c]
  have SL : ∀ a b c lo X x, (K a b c lo X).set L1 x = K a b c x X := fun a b c lo X x => by rw [hK, hL1, le_set]
  have KA : ∀ a b c lo X Y, K a b c lo X ++ Y = K a b c lo (X ++ Y) := fun a b c lo X Y => by rw [hK, le_app]
  have KN : ∀ a b c lo X, K a b c lo X = K a b c lo [] ++ X := fun a b c lo X => by rw [KA, List.nil_append]
  have KD : ∀ a b c lo X, ∃ l, K a b c lo X = h ++ l := fun a b c lo X => by rw [hK]; exact ⟨_, rfl⟩
  obtain ⟨B0, hB0⟩ : ∃ B0 : AH, B0 = h ++ [.row [.int .i64 p, .int .i64 n, .sl (gl.map encG) .free] 54, .row [.int .i64 p2, .int .i64 n2, .sl (gl2.map encG) .free] 54, .row [.sl [] .full] 29, .row [.bool false] 4, .row [.int .i64 0] 26] := ⟨_, rfl⟩
  rw [← hB0]
  have hB0l : B0.length = L1 := by rw [hB0, hL1]; simp
  have hH0 : B0 ++ [.loop .ready none li] = K (.sl [] .full) (.bool false) (.int .i64 0) (.loop .ready none li) [] := by rw [hB0, hK]; simp [leK]
  rw [hH0]
  have KK : ∀ a b c a' b' c' s p s' p' X Y, Kept (L1 + 1) (K a b c (.loop s p li) X) (K a b c (.loop s p li) Y) → Kept (L1 + 1) (K a b c (.loop s p li) X) (K a' b' c' (.loop s' p' li) Y) := fun a b c a' b' c' s p s' p' X Y hY => by
    have q := (((hY.setRow (i := h.length + 2) (cs := [a']) (T := 29) (by omega)).setRow (i := h.length + 3) (cs := [b']) (T := 4) (by omega)).setRow (i := h.length + 4) (cs := [c']) (T := 26) (by omega)).setB (i := L1) (s := s') (p := p') (li := li) (by omega) (KL ..)
    rwa [Sa, Sb, Sc, SL] at q
  have C : ConsI Γ L1 (L1 + 1) S L (fun don hx => ∃ (out : List Nat) (own : Abs.Own) (X : AH), lessL L don = some out ∧ OwnAt (K (.sl [] .full) (.bool false) (.int .i64 0) (.loop .ready none li) []) X out.length own ∧ hx = K (.sl (encNs out) own) (.bool false) (.int .i64 0) (.loop .ready none li) X)
      (fun hx => ∃ don x r X, S = don ++ x :: r ∧ insF L x = none ∧ hx = K (.sl [] .full) (.bool false) (.int .i64 0) (.loop .done (some .ret) li) X) := by
    refine ⟨?_, ?_⟩
    · rintro don h1 h2 ⟨out, own, X, k1, k2, rfl⟩ ⟨Y, hY, rfl⟩
      exact ⟨out, own, X ++ Y, k1, k2.app Y, by rw [KA]⟩
    · rintro don x r h1 hdx hb1 ⟨out, own, X, k1, k2, rfl⟩
      have hol := lessL_len k1
      have hdl : don.length ≤ 256 := by
        have := congrArg List.length hdx
        simp at this; omega
      refine ayield_W hli (KL ..) rfl rfl Ty.mixed (by kernel_rfl) ?_
      simp (disch := omega) only [go_sem, seval, KL, SL]
      refine aCode_ok Ty.mixed _ _ _ _ (by kernel_rfl) ?_
      simp (disch := omega) only [go_sem, seval]
      cases hf : insF L x with
      | none =>
        rw [fidI]
        simp (disch := omega) only [go_sem, seval, Ka, Kb, Kc, Sa, Sb, Sc, KL, SL]
        exact ⟨KK _ _ _ _ _ _ _ _ _ _ _ _ (.refl _ _), .inr ⟨don, x, r, X, hdx, hf, rfl⟩⟩
      | some k =>
        have hkL : k < L.length := by obtain ⟨s, q1, _⟩ := insF_some hf; exact (List.getElem?_eq_some_iff.1 q1).1
        rw [fidI]
        refine aIf.neg (by omega) ?_
        simp (disch := omega) only [go_sem, seval, Ka, encI_len]
        rw [KN (.sl (encNs out) own) _ _ _ X]
        refine aAp_ar (own := own) ?_ rfl (rowsOK_I (out.map fun (k : Nat) => (k : Int))) (rowsOK_I [(k : Int)]) (by simp [encNs_len]; omega) (by simp [encNs_len]; omega) fun j' own' ho' hst => ?_
        · rw [encNs_len]
          exact OwnAt.len k2 (by rw [Klen, Klen])
        rw [show encNs out ++ [.int .i64 (k : Int)] = encNs (out ++ [k]) from (encNs_snoc out k).symm]
        rw [← KN]
        simp (disch := omega) only [go_sem, seval, Ka, Sa, KL, SL]
        refine ⟨KK _ _ _ _ _ _ _ _ _ _ _ _ ?_, .inl ⟨out ++ [k], own', j', lessL_snoc k1 hf, ?_, rfl⟩⟩
        · rw [KN _ _ _ _ X, KN _ _ _ _ j']; exact hst.kept _ _
        · refine OwnAt.len (K := K (.sl (encNs out) own) (.bool false) (.int .i64 0) (.loop .busy none li) []) ?_ (by rw [Klen, Klen])
          simpa [encNs_len] using ho'
  rw [← hB0l] at C
  refine (inner1_calls Γ S L B0.length (B0.length + 1) _ _ C (by omega) (by omega) b2 b1 _ (by rw [Klen, hB0l]; omega) ⟨[], .full, [], rfl, trivial, rfl⟩).mono ?_
  rintro v h' ⟨q1, q2⟩
  rcases q2 with ⟨out, own, X, q2, q3, rfl⟩ | ⟨don, x, r, X, q2, q3, rfl⟩
  · refine rangeN_post (li0 := li) (by rw [hB0l]; exact KL ..) (by rw [hH0]; exact q1.old) (by simp) ?_
    rw [afterLoop_none, hB0l, SL]
    simp (disch := omega) only [go_sem, seval]
    refine BWP.keep [4, 5, 6] ?_
    refine bCode_ok (B := h.length + 5) _ _ _ _ (by kernel_rfl) ?_
    simp (disch := omega) only [go_sem, seval, Ka, Kb, Kc, Sa, Sb, Sc]
    refine callsD_mono (caught_none Γ _ _) ?_
    rintro _ rfl
    simp (disch := omega) only [go_sem, seval, Ka, Kb, Kc]
    rw [q2]
    exact ⟨KD .., of_eq_true (by rw [encNs, loose_I]; exact rb_I ..), by rw [encNs, loose_I]⟩
  · refine rangeN_post (li0 := li) (by rw [hB0l]; exact KL ..) (by rw [hH0]; exact q1.old) (by simp) ?_
    rw [hB0l, SL]
    refine afterLoop_some Ty.mixed (by kernel_rfl) ?_
    simp (disch := omega) only [go_sem, seval, Ka, Kb, Kc]
    refine callsD_mono (caught_none Γ _ _) ?_
    rintro _ rfl
    simp (disch := omega) only [go_sem, seval, Ka, Kb, Kc]
    rw [q2, lessL_stop q3]
    exact ⟨KD .., rfl⟩
end Go.Proofs.Ytelehpccfaedjaa
