/- The law LivingMore: the code. No conditions. -/
import Derived.Test.YtopiamdfnaejeaaLivN
set_option linter.unusedSimpArgs false
set_option linter.unusedVariables false
namespace Go.Proofs.Ytopiamdfnaejeaa
open Go Go.Proofs Go.Abs

theorem range_mid {n x : Nat} {don r : List Nat} (h : List.range n = don ++ x :: r) : x = don.length := by
  have := congrArg (fun l => l[don.length]?) h
  simp only [List.getElem?_append_right (Nat.le_refl _), Nat.sub_self, List.getElem?_cons_zero] at this
  have h2 := (List.getElem?_eq_some_iff.1 this)
  obtain ⟨h3, h4⟩ := h2
  simp at h4
  exact h4.symm
theorem both_one (x : Int) (al : List Int) : bothF [x] al = if x ∈ al then [x] else [] := by
  unfold bothF
  split <;> simp [*]
theorem more_facts {g : Gt} {al : List Int} (he : err51F g al = 0) {o : Int} (ho : 0 ≤ o ∧ o < 64) :
    ∃ who now lost less ok still, livR g al = (who, ok, 0) ∧ livR g (moreF al o) = (now, still, 0) ∧ marR g al = (lost, ok, 0) ∧ marR g (moreF al o) = (less, still, 0) ∧
      (ok = true → still = true ∧ lost.length ≤ less.length ∧ now.length ≤ who.length) ∧ (o ∉ pplF g → who = now ∧ lost = less ∧ ok = still) ∧ who.length ≤ 12 ∧ now.length ≤ 12 ∧ lost.length ≤ 12 ∧ less.length ≤ 12 := by
  have he' := err_more he o
  have key : ∀ al, err51F g al = 0 → ∃ a b, livR g al = (a, permF g al, 0) ∧ marR g al = (b, permF g al, 0) := fun al he => by
    cases hp : permF g al with
    | false => exact ⟨_, _, liv_false he hp, mar_false he hp⟩
    | true =>
      obtain ⟨s, h1, _⟩ := liv_true he hp
      obtain ⟨u, h2, _⟩ := mar_find he hp
      exact ⟨s, u, h1, h2⟩
  obtain ⟨a, b, h1, h2⟩ := key al he
  obtain ⟨a', b', h1', h2'⟩ := key _ he'
  refine ⟨a, a', b, b', permF g al, permF g (moreF al o), h1, h1', h2, h2', fun hp => ?_, fun hn => ?_, ?_, ?_, ?_, ?_⟩
  · have := more_true he ho hp
    rw [h1, h1', h2, h2'] at this
    exact this
  · obtain ⟨k1, k2⟩ := more_out he ho hn
    rw [h1, h1'] at k1
    rw [h2, h2'] at k2
    injection k1 with k1 k3
    injection k2 with k2 _
    injection k3 with k3 _
    exact ⟨k1.symm, k2.symm, k3.symm⟩
  · have := livR_len g al; rwa [h1] at this
  · have := livR_len g (moreF al o); rwa [h1'] at this
  · have := marR_len g al; rwa [h2] at this
  · have := marR_len g (moreF al o); rwa [h2'] at this
set_option maxRecDepth 100000 in
theorem more_law_calls (Γ : Nat → Option (List AV)) (g : Gt) (al : List Int) (o : Int) (h : AH) (hs : Sh g) (hal : al.length ≤ 9223372036854775807) :
    ACalls Try.prog Γ 7 [encG g, .sl (encI al) .free, .int .i64 o] h fun v h' => h' = h ∧ v = .bool true := by
  refine ACalls.drop ?_
  refine acalls_code (rs := [.tmp 6]) Try.func7 rfl rfl rfl rfl Ty.mixed (by kernel_rfl) ?_
  simp (disch := omega) only [go_sem, bne_self_eq_false, beq_self_eq_true, true_and, and_true, decide_true, decide_false, wrap_i64, ↓reduceIte, Nat.reduceAdd, Nat.reduceSub, Nat.reduceMul, Nat.reduceEqDiff, Nat.reduceLeDiff, Int.reduceAdd, Int.reduceSub, Int.reduceNeg, Int.reduceLT, Int.reduceLE, Int.reduceEq, Int.reduceToNat, Nat.reduceMod]
  refine ACalls.det (sane_calls Γ _) ?_
  simp (disch := omega) only [go_sem, bne_self_eq_false, beq_self_eq_true, true_and, and_true, decide_true, decide_false, wrap_i64, ↓reduceIte, Nat.reduceAdd, Nat.reduceSub, Nat.reduceMul, Nat.reduceEqDiff, Nat.reduceLeDiff, Int.reduceAdd, Int.reduceSub, Int.reduceNeg, Int.reduceLT, Int.reduceLE, Int.reduceEq, Int.reduceToNat, Nat.reduceMod]
  refine ACalls.det (few51_calls Γ g al _ hs hal) ?_
  cases hf : (few24F g && decide (al.length ≤ 80)) with
  | false => simp (disch := omega) only [go_sem, bne_self_eq_false, beq_self_eq_true, true_and, and_true, decide_true, decide_false, wrap_i64, ↓reduceIte, Nat.reduceAdd, Nat.reduceSub, Nat.reduceMul, Nat.reduceEqDiff, Nat.reduceLeDiff, Int.reduceAdd, Int.reduceSub, Int.reduceNeg, Int.reduceLT, Int.reduceLE, Int.reduceEq, Int.reduceToNat, Nat.reduceMod]
  | true =>
    simp only [Bool.and_eq_true, decide_eq_true_eq] at hf
    simp (disch := omega) only [go_sem, bne_self_eq_false, beq_self_eq_true, true_and, and_true, decide_true, decide_false, wrap_i64, ↓reduceIte, Nat.reduceAdd, Nat.reduceSub, Nat.reduceMul, Nat.reduceEqDiff, Nat.reduceLeDiff, Int.reduceAdd, Int.reduceSub, Int.reduceNeg, Int.reduceLT, Int.reduceLE, Int.reduceEq, Int.reduceToNat, Nat.reduceMod]
    refine ACalls.det (err51_calls Γ g al _ hs (by omega)) ?_
    simp (disch := omega) only [go_sem, bne_self_eq_false, beq_self_eq_true, true_and, and_true, decide_true, decide_false, wrap_i64, ↓reduceIte, Nat.reduceAdd, Nat.reduceSub, Nat.reduceMul, Nat.reduceEqDiff, Nat.reduceLeDiff, Int.reduceAdd, Int.reduceSub, Int.reduceNeg, Int.reduceLT, Int.reduceLE, Int.reduceEq, Int.reduceToNat, Nat.reduceMod]
    refine aIf.intro (fun he => ?_) (fun he => ?_) <;> simp (disch := omega) only [go_sem, bne_self_eq_false, beq_self_eq_true, true_and, and_true, decide_true, decide_false, wrap_i64, ↓reduceIte, Nat.reduceAdd, Nat.reduceSub, Nat.reduceMul, Nat.reduceEqDiff, Nat.reduceLeDiff, Int.reduceAdd, Int.reduceSub, Int.reduceNeg, Int.reduceLT, Int.reduceLE, Int.reduceEq, Int.reduceToNat, Nat.reduceMod]
    refine aIf.intro (fun ho1 => ?_) (fun ho1 => ?_) <;> simp (disch := omega) only [go_sem, bne_self_eq_false, beq_self_eq_true, true_and, and_true, decide_true, decide_false, wrap_i64, ↓reduceIte, Nat.reduceAdd, Nat.reduceSub, Nat.reduceMul, Nat.reduceEqDiff, Nat.reduceLeDiff, Int.reduceAdd, Int.reduceSub, Int.reduceNeg, Int.reduceLT, Int.reduceLE, Int.reduceEq, Int.reduceToNat, Nat.reduceMod]
    refine aIf.intro (fun ho2 => ?_) (fun ho2 => ?_) <;> simp (disch := omega) only [go_sem, bne_self_eq_false, beq_self_eq_true, true_and, and_true, decide_true, decide_false, wrap_i64, ↓reduceIte, Nat.reduceAdd, Nat.reduceSub, Nat.reduceMul, Nat.reduceEqDiff, Nat.reduceLeDiff, Int.reduceAdd, Int.reduceSub, Int.reduceNeg, Int.reduceLT, Int.reduceLE, Int.reduceEq, Int.reduceToNat, Nat.reduceMod]
    have hok := err_ok he
    have ho : 0 ≤ o ∧ o < 64 := by omega
    obtain ⟨xs, hxs⟩ : ∃ xs, xs = List.range 64 := ⟨_, rfl⟩
    have hxl : xs.length = 64 := by rw [hxs]; simp
    obtain ⟨K, hK⟩ : ∃ K : AH, K = h ++ [.row (encG g).cells 24] := ⟨_, rfl⟩
    have Kg : ∀ j : AH, (K ++ j)[h.length]? = some (.row (encG g).cells 24) := by subst hK; simp
    have KD : ∀ j : AH, ∃ l, K ++ j = h ++ l := by subst hK; intro j; exact ⟨_, List.append_assoc ..⟩
    rw [← hK]
    refine awp_loopL (β := FlS) xs [1, 2, 3, 7, 42] (fun don s => [(1, .sl (encI al) .free), (2, .int .i64 o), (3, .ptr (some (h.length, 0))), (7, .sl (encI s.l) s.own), (42, .int .i64 don.length)])
      (fun s => K ++ s.j) (fun don r s => OwnAt K s.j s.l.length s.own ∧ s.l.length ≤ don.length ∧ s.l = (don.map Int.ofNat).filter fun p => decide (p = o) || decide (p ∈ al)) ⟨[], .full, []⟩ ?_ (by simp) ⟨trivial, by simp, rfl⟩ Ty.mixed (by kernel_rfl) ?_ ?_
    · simp (disch := omega) only [go_sem, bne_self_eq_false, beq_self_eq_true, true_and, and_true, decide_true, decide_false, wrap_i64, ↓reduceIte, Nat.reduceAdd, Nat.reduceSub, Nat.reduceMul, Nat.reduceEqDiff, Nat.reduceLeDiff, Int.reduceAdd, Int.reduceSub, Int.reduceNeg, Int.reduceLT, Int.reduceLE, Int.reduceEq, Int.reduceToNat, Nat.reduceMod, encI, List.map_nil]
    · rintro don x r ⟨m, own, j⟩ hx ⟨ho', hml, hm⟩
      simp only at ho' hml hm ⊢
      rw [hxs] at hx
      obtain rfl := range_mid hx
      have hdl : don.length < 64 := by have := congrArg List.length hx; simp at this; omega
      simp (disch := omega) only [go_sem, bne_self_eq_false, beq_self_eq_true, true_and, and_true, decide_true, decide_false, wrap_i64, ↓reduceIte, Nat.reduceAdd, Nat.reduceSub, Nat.reduceMul, Nat.reduceEqDiff, Nat.reduceLeDiff, Int.reduceAdd, Int.reduceSub, Int.reduceNeg, Int.reduceLT, Int.reduceLE, Int.reduceEq, Int.reduceToNat, Nat.reduceMod]
      refine aIf.pos (by omega) ?_
      simp (disch := omega) only [go_sem, bne_self_eq_false, beq_self_eq_true, true_and, and_true, decide_true, decide_false, wrap_i64, ↓reduceIte, Nat.reduceAdd, Nat.reduceSub, Nat.reduceMul, Nat.reduceEqDiff, Nat.reduceLeDiff, Int.reduceAdd, Int.reduceSub, Int.reduceNeg, Int.reduceLT, Int.reduceLE, Int.reduceEq, Int.reduceToNat, Nat.reduceMod]
      by_cases hin : (don.length : Int) = o ∨ (don.length : Int) ∈ al
      · have hmx : (m ++ [(don.length : Int)]) = ((don ++ [don.length]).map Int.ofNat).filter (fun p => decide (p = o) || decide (p ∈ al)) := by
          rw [List.map_append, List.filter_append, ← hm]
          simp [hin]
        have fin : ∀ j' own', OwnAt K j' (m.length + 1) own' → OwnAt K j' (m ++ [(don.length : Int)]).length own' ∧ (m ++ [(don.length : Int)]).length ≤ (don ++ [don.length]).length ∧ (m ++ [(don.length : Int)]) = ((don ++ [don.length]).map Int.ofNat).filter (fun p => decide (p = o) || decide (p ∈ al)) :=
          fun j' own' h => ⟨by simpa using h, by simp; omega, hmx⟩
        by_cases hxo : (don.length : Int) = o
        · refine aIf.pos hxo ?_
          simp (disch := omega) only [go_sem, bne_self_eq_false, beq_self_eq_true, true_and, and_true, decide_true, decide_false, wrap_i64, ↓reduceIte, Nat.reduceAdd, Nat.reduceSub, Nat.reduceMul, Nat.reduceEqDiff, Nat.reduceLeDiff, Int.reduceAdd, Int.reduceSub, Int.reduceNeg, Int.reduceLT, Int.reduceLE, Int.reduceEq, Int.reduceToNat, Nat.reduceMod]
          refine aAp_sl (by rw [encI_len]; exact ho') (rowsOK_I _) (rowsOK_I [(don.length : Int)]) (by simp [encI_len]; omega) (by simp [encI_len]; omega) fun j' own' ho2 hg => ?_
          rw [encI_snoc]
          simp (disch := omega) only [go_sem, bne_self_eq_false, beq_self_eq_true, true_and, and_true, decide_true, decide_false, wrap_i64, ↓reduceIte, Nat.reduceAdd, Nat.reduceSub, Nat.reduceMul, Nat.reduceEqDiff, Nat.reduceLeDiff, Int.reduceAdd, Int.reduceSub, Int.reduceNeg, Int.reduceLT, Int.reduceLE, Int.reduceEq, Int.reduceToNat, Nat.reduceMod]
          refine roundL_next ⟨m ++ [(don.length : Int)], own', j'⟩ (fin j' own' (by simpa [encI_len] using ho2)) ?_ rfl
          simp (disch := omega) only [go_sem, bne_self_eq_false, beq_self_eq_true, true_and, and_true, decide_true, decide_false, wrap_i64, ↓reduceIte, Nat.reduceAdd, Nat.reduceSub, Nat.reduceMul, Nat.reduceEqDiff, Nat.reduceLeDiff, Int.reduceAdd, Int.reduceSub, Int.reduceNeg, Int.reduceLT, Int.reduceLE, Int.reduceEq, Int.reduceToNat, Nat.reduceMod, List.length_append]
        · refine aIf.neg hxo ?_
          simp (disch := omega) only [go_sem, bne_self_eq_false, beq_self_eq_true, true_and, and_true, decide_true, decide_false, wrap_i64, ↓reduceIte, Nat.reduceAdd, Nat.reduceSub, Nat.reduceMul, Nat.reduceEqDiff, Nat.reduceLeDiff, Int.reduceAdd, Int.reduceSub, Int.reduceNeg, Int.reduceLT, Int.reduceLE, Int.reduceEq, Int.reduceToNat, Nat.reduceMod]
          refine ACalls.det (ACalls.ofLoose (both_calls Γ [(don.length : Int)] al _ (by simp) (by omega)) (by simp only [looseL, loose, loose_I]; simp [encI, looseL, loose])) ?_
          rw [both_one, if_pos (hin.resolve_left hxo)]
          simp (disch := omega) only [go_sem, bne_self_eq_false, beq_self_eq_true, true_and, and_true, decide_true, decide_false, wrap_i64, ↓reduceIte, Nat.reduceAdd, Nat.reduceSub, Nat.reduceMul, Nat.reduceEqDiff, Nat.reduceLeDiff, Int.reduceAdd, Int.reduceSub, Int.reduceNeg, Int.reduceLT, Int.reduceLE, Int.reduceEq, Int.reduceToNat, Nat.reduceMod, encI_len, List.length_cons, List.length_nil]
          refine aAp_sl (by rw [encI_len]; exact ho') (rowsOK_I _) (rowsOK_I [(don.length : Int)]) (by simp [encI_len]; omega) (by simp [encI_len]; omega) fun j' own' ho2 hg => ?_
          rw [encI_snoc]
          simp (disch := omega) only [go_sem, bne_self_eq_false, beq_self_eq_true, true_and, and_true, decide_true, decide_false, wrap_i64, ↓reduceIte, Nat.reduceAdd, Nat.reduceSub, Nat.reduceMul, Nat.reduceEqDiff, Nat.reduceLeDiff, Int.reduceAdd, Int.reduceSub, Int.reduceNeg, Int.reduceLT, Int.reduceLE, Int.reduceEq, Int.reduceToNat, Nat.reduceMod]
          refine roundL_next ⟨m ++ [(don.length : Int)], own', j'⟩ (fin j' own' (by simpa [encI_len] using ho2)) ?_ rfl
          simp (disch := omega) only [go_sem, bne_self_eq_false, beq_self_eq_true, true_and, and_true, decide_true, decide_false, wrap_i64, ↓reduceIte, Nat.reduceAdd, Nat.reduceSub, Nat.reduceMul, Nat.reduceEqDiff, Nat.reduceLeDiff, Int.reduceAdd, Int.reduceSub, Int.reduceNeg, Int.reduceLT, Int.reduceLE, Int.reduceEq, Int.reduceToNat, Nat.reduceMod, List.length_append]
      · rw [not_or] at hin
        refine aIf.neg hin.1 ?_
        simp (disch := omega) only [go_sem, bne_self_eq_false, beq_self_eq_true, true_and, and_true, decide_true, decide_false, wrap_i64, ↓reduceIte, Nat.reduceAdd, Nat.reduceSub, Nat.reduceMul, Nat.reduceEqDiff, Nat.reduceLeDiff, Int.reduceAdd, Int.reduceSub, Int.reduceNeg, Int.reduceLT, Int.reduceLE, Int.reduceEq, Int.reduceToNat, Nat.reduceMod]
        refine ACalls.det (ACalls.ofLoose (both_calls Γ [(don.length : Int)] al _ (by simp) (by omega)) (by simp only [looseL, loose, loose_I]; simp [encI, looseL, loose])) ?_
        rw [both_one, if_neg hin.2]
        simp (disch := omega) only [go_sem, bne_self_eq_false, beq_self_eq_true, true_and, and_true, decide_true, decide_false, wrap_i64, ↓reduceIte, Nat.reduceAdd, Nat.reduceSub, Nat.reduceMul, Nat.reduceEqDiff, Nat.reduceLeDiff, Int.reduceAdd, Int.reduceSub, Int.reduceNeg, Int.reduceLT, Int.reduceLE, Int.reduceEq, Int.reduceToNat, Nat.reduceMod, encI_len, List.length_cons, List.length_nil]
        refine roundL_next ⟨m, own, j⟩ ⟨ho', by simp; omega, ?_⟩ ?_ rfl
        · rw [List.map_append, List.filter_append, ← hm]
          simp [hin.1, hin.2]
        · simp (disch := omega) only [go_sem, bne_self_eq_false, beq_self_eq_true, true_and, and_true, decide_true, decide_false, wrap_i64, ↓reduceIte, Nat.reduceAdd, Nat.reduceSub, Nat.reduceMul, Nat.reduceEqDiff, Nat.reduceLeDiff, Int.reduceAdd, Int.reduceSub, Int.reduceNeg, Int.reduceLT, Int.reduceLE, Int.reduceEq, Int.reduceToNat, Nat.reduceMod, List.length_append]
    · rintro ⟨m, own, j⟩ ⟨ho', hml, hm⟩
      simp only at ho' hml hm ⊢
      rw [hxl] at hml ⊢
      rw [hxs] at hm
      simp (disch := omega) only [go_sem, bne_self_eq_false, beq_self_eq_true, true_and, and_true, decide_true, decide_false, wrap_i64, ↓reduceIte, Nat.reduceAdd, Nat.reduceSub, Nat.reduceMul, Nat.reduceEqDiff, Nat.reduceLeDiff, Int.reduceAdd, Int.reduceSub, Int.reduceNeg, Int.reduceLT, Int.reduceLE, Int.reduceEq, Int.reduceToNat, Nat.reduceMod]
      have hmm : m = moreF al o := hm
      rw [hmm] at hml ⊢
      refine AWP.keep [1, 2, 3, 7] (AWP.lzs (aCode_ok Ty.mixed _ _ _ _ (by kernel_rfl) ?_))
      simp (disch := omega) only [go_sem, bne_self_eq_false, beq_self_eq_true, true_and, and_true, decide_true, decide_false, wrap_i64, ↓reduceIte, Nat.reduceAdd, Nat.reduceSub, Nat.reduceMul, Nat.reduceEqDiff, Nat.reduceLeDiff, Int.reduceAdd, Int.reduceSub, Int.reduceNeg, Int.reduceLT, Int.reduceLE, Int.reduceEq, Int.reduceToNat, Nat.reduceMod, Kg]
      have hp := fun h => living_calls Γ g al h hs (by omega)
      have hp' := fun h => living_calls Γ g (moreF al o) h hs (by omega)
      have kp := fun h => margin_calls Γ g al h hs (by omega)
      have kp' := fun h => margin_calls Γ g (moreF al o) h hs (by omega)
      rw [liv_eq] at hp hp'
      rw [mar_eq] at kp kp'
      obtain ⟨who, now, lost, less, ok, still, f1, f2, f3, f4, f5, f6, l1, l2, l3, l4⟩ := more_facts he ho
      rw [f1] at hp
      rw [f2] at hp'
      rw [f3] at kp
      rw [f4] at kp'
      simp only [encW] at hp hp' kp kp'
      have hlv : allLeaves g ≤ 1000 := by have := check_leaves hok.c; omega
      have hpn := hok.n
      have hin : (∀ x ∈ [o], x ∈ pplF g) ↔ o ∈ pplF g := by simp
      refine ACalls.det (hp _) ?_
      simp (disch := omega) only [go_sem, bne_self_eq_false, beq_self_eq_true, true_and, and_true, decide_true, decide_false, wrap_i64, ↓reduceIte, Nat.reduceAdd, Nat.reduceSub, Nat.reduceMul, Nat.reduceEqDiff, Nat.reduceLeDiff, Int.reduceAdd, Int.reduceSub, Int.reduceNeg, Int.reduceLT, Int.reduceLE, Int.reduceEq, Int.reduceToNat, Nat.reduceMod, Kg]
      refine ACalls.det (hp' _) ?_
      simp (disch := omega) only [go_sem, bne_self_eq_false, beq_self_eq_true, true_and, and_true, decide_true, decide_false, wrap_i64, ↓reduceIte, Nat.reduceAdd, Nat.reduceSub, Nat.reduceMul, Nat.reduceEqDiff, Nat.reduceLeDiff, Int.reduceAdd, Int.reduceSub, Int.reduceNeg, Int.reduceLT, Int.reduceLE, Int.reduceEq, Int.reduceToNat, Nat.reduceMod, Kg]
      refine ACalls.det (kp _) ?_
      simp (disch := omega) only [go_sem, bne_self_eq_false, beq_self_eq_true, true_and, and_true, decide_true, decide_false, wrap_i64, ↓reduceIte, Nat.reduceAdd, Nat.reduceSub, Nat.reduceMul, Nat.reduceEqDiff, Nat.reduceLeDiff, Int.reduceAdd, Int.reduceSub, Int.reduceNeg, Int.reduceLT, Int.reduceLE, Int.reduceEq, Int.reduceToNat, Nat.reduceMod, Kg]
      refine ACalls.det (kp' _) ?_
      cases ok with
      | false =>
        cases still with
        | false =>
          simp (disch := omega) only [go_sem, bne_self_eq_false, beq_self_eq_true, true_and, and_true, decide_true, decide_false, wrap_i64, ↓reduceIte, Nat.reduceAdd, Nat.reduceSub, Nat.reduceMul, Nat.reduceEqDiff, Nat.reduceLeDiff, Int.reduceAdd, Int.reduceSub, Int.reduceNeg, Int.reduceLT, Int.reduceLE, Int.reduceEq, Int.reduceToNat, Nat.reduceMod, Kg, encI_len]
          refine ACalls.det (ppl_calls Γ g _ hs hlv) ?_
          simp (disch := omega) only [go_sem, bne_self_eq_false, beq_self_eq_true, true_and, and_true, decide_true, decide_false, wrap_i64, ↓reduceIte, Nat.reduceAdd, Nat.reduceSub, Nat.reduceMul, Nat.reduceEqDiff, Nat.reduceLeDiff, Int.reduceAdd, Int.reduceSub, Int.reduceNeg, Int.reduceLT, Int.reduceLE, Int.reduceEq, Int.reduceToNat, Nat.reduceMod, Kg]
          refine ACalls.det (ACalls.ofLoose (inside_calls Γ [o] (pplF g) _ (by simp) (by omega)) (by simp only [looseL, loose, loose_I]; simp [encI, looseL, loose])) ?_
          by_cases hio : o ∈ pplF g
          · rw [decide_eq_true (hin.2 hio)]
            simp (disch := omega) only [go_sem, bne_self_eq_false, beq_self_eq_true, true_and, and_true, decide_true, decide_false, wrap_i64, ↓reduceIte, Nat.reduceAdd, Nat.reduceSub, Nat.reduceMul, Nat.reduceEqDiff, Nat.reduceLeDiff, Int.reduceAdd, Int.reduceSub, Int.reduceNeg, Int.reduceLT, Int.reduceLE, Int.reduceEq, Int.reduceToNat, Nat.reduceMod, Kg]
            exact KD j
          · rw [decide_eq_false (fun e => hio (hin.1 e))]
            simp (disch := omega) only [go_sem, bne_self_eq_false, beq_self_eq_true, true_and, and_true, decide_true, decide_false, wrap_i64, ↓reduceIte, Nat.reduceAdd, Nat.reduceSub, Nat.reduceMul, Nat.reduceEqDiff, Nat.reduceLeDiff, Int.reduceAdd, Int.reduceSub, Int.reduceNeg, Int.reduceLT, Int.reduceLE, Int.reduceEq, Int.reduceToNat, Nat.reduceMod, Kg]
            obtain ⟨rfl, rfl, _⟩ := f6 hio
            refine ACalls.det (sameI_calls Γ who who _ (by omega)) ?_
            simp (disch := omega) only [go_sem, bne_self_eq_false, beq_self_eq_true, true_and, and_true, decide_true, decide_false, wrap_i64, ↓reduceIte, Nat.reduceAdd, Nat.reduceSub, Nat.reduceMul, Nat.reduceEqDiff, Nat.reduceLeDiff, Int.reduceAdd, Int.reduceSub, Int.reduceNeg, Int.reduceLT, Int.reduceLE, Int.reduceEq, Int.reduceToNat, Nat.reduceMod, Kg]
            refine ACalls.det (sameI_calls Γ lost lost _ (by omega)) ?_
            simp (disch := omega) only [go_sem, bne_self_eq_false, beq_self_eq_true, true_and, and_true, decide_true, decide_false, wrap_i64, ↓reduceIte, Nat.reduceAdd, Nat.reduceSub, Nat.reduceMul, Nat.reduceEqDiff, Nat.reduceLeDiff, Int.reduceAdd, Int.reduceSub, Int.reduceNeg, Int.reduceLT, Int.reduceLE, Int.reduceEq, Int.reduceToNat, Nat.reduceMod, Kg]
            exact KD j
        | true =>
          simp (disch := omega) only [go_sem, bne_self_eq_false, beq_self_eq_true, true_and, and_true, decide_true, decide_false, wrap_i64, ↓reduceIte, Nat.reduceAdd, Nat.reduceSub, Nat.reduceMul, Nat.reduceEqDiff, Nat.reduceLeDiff, Int.reduceAdd, Int.reduceSub, Int.reduceNeg, Int.reduceLT, Int.reduceLE, Int.reduceEq, Int.reduceToNat, Nat.reduceMod, Kg, encI_len]
          refine ACalls.det (ppl_calls Γ g _ hs hlv) ?_
          simp (disch := omega) only [go_sem, bne_self_eq_false, beq_self_eq_true, true_and, and_true, decide_true, decide_false, wrap_i64, ↓reduceIte, Nat.reduceAdd, Nat.reduceSub, Nat.reduceMul, Nat.reduceEqDiff, Nat.reduceLeDiff, Int.reduceAdd, Int.reduceSub, Int.reduceNeg, Int.reduceLT, Int.reduceLE, Int.reduceEq, Int.reduceToNat, Nat.reduceMod, Kg]
          refine ACalls.det (ACalls.ofLoose (inside_calls Γ [o] (pplF g) _ (by simp) (by omega)) (by simp only [looseL, loose, loose_I]; simp [encI, looseL, loose])) ?_
          by_cases hio : o ∈ pplF g
          · rw [decide_eq_true (hin.2 hio)]
            simp (disch := omega) only [go_sem, bne_self_eq_false, beq_self_eq_true, true_and, and_true, decide_true, decide_false, wrap_i64, ↓reduceIte, Nat.reduceAdd, Nat.reduceSub, Nat.reduceMul, Nat.reduceEqDiff, Nat.reduceLeDiff, Int.reduceAdd, Int.reduceSub, Int.reduceNeg, Int.reduceLT, Int.reduceLE, Int.reduceEq, Int.reduceToNat, Nat.reduceMod, Kg]
            exact KD j
          · rw [decide_eq_false (fun e => hio (hin.1 e))]
            simp (disch := omega) only [go_sem, bne_self_eq_false, beq_self_eq_true, true_and, and_true, decide_true, decide_false, wrap_i64, ↓reduceIte, Nat.reduceAdd, Nat.reduceSub, Nat.reduceMul, Nat.reduceEqDiff, Nat.reduceLeDiff, Int.reduceAdd, Int.reduceSub, Int.reduceNeg, Int.reduceLT, Int.reduceLE, Int.reduceEq, Int.reduceToNat, Nat.reduceMod, Kg]
            exact absurd (f6 hio).2.2 (by decide)
      | true =>
          obtain ⟨rfl, k1, k2⟩ := f5 rfl
          simp (disch := omega) only [go_sem, bne_self_eq_false, beq_self_eq_true, true_and, and_true, decide_true, decide_false, wrap_i64, ↓reduceIte, Nat.reduceAdd, Nat.reduceSub, Nat.reduceMul, Nat.reduceEqDiff, Nat.reduceLeDiff, Int.reduceAdd, Int.reduceSub, Int.reduceNeg, Int.reduceLT, Int.reduceLE, Int.reduceEq, Int.reduceToNat, Nat.reduceMod, Kg, encI_len]
          refine aIf.neg (by omega) ?_
          simp (disch := omega) only [go_sem, bne_self_eq_false, beq_self_eq_true, true_and, and_true, decide_true, decide_false, wrap_i64, ↓reduceIte, Nat.reduceAdd, Nat.reduceSub, Nat.reduceMul, Nat.reduceEqDiff, Nat.reduceLeDiff, Int.reduceAdd, Int.reduceSub, Int.reduceNeg, Int.reduceLT, Int.reduceLE, Int.reduceEq, Int.reduceToNat, Nat.reduceMod, Kg, encI_len]
          refine aIf.neg (by omega) ?_
          simp (disch := omega) only [go_sem, bne_self_eq_false, beq_self_eq_true, true_and, and_true, decide_true, decide_false, wrap_i64, ↓reduceIte, Nat.reduceAdd, Nat.reduceSub, Nat.reduceMul, Nat.reduceEqDiff, Nat.reduceLeDiff, Int.reduceAdd, Int.reduceSub, Int.reduceNeg, Int.reduceLT, Int.reduceLE, Int.reduceEq, Int.reduceToNat, Nat.reduceMod, Kg, encI_len]
          refine ACalls.det (ppl_calls Γ g _ hs hlv) ?_
          simp (disch := omega) only [go_sem, bne_self_eq_false, beq_self_eq_true, true_and, and_true, decide_true, decide_false, wrap_i64, ↓reduceIte, Nat.reduceAdd, Nat.reduceSub, Nat.reduceMul, Nat.reduceEqDiff, Nat.reduceLeDiff, Int.reduceAdd, Int.reduceSub, Int.reduceNeg, Int.reduceLT, Int.reduceLE, Int.reduceEq, Int.reduceToNat, Nat.reduceMod, Kg]
          refine ACalls.det (ACalls.ofLoose (inside_calls Γ [o] (pplF g) _ (by simp) (by omega)) (by simp only [looseL, loose, loose_I]; simp [encI, looseL, loose])) ?_
          by_cases hio : o ∈ pplF g
          · rw [decide_eq_true (hin.2 hio)]
            simp (disch := omega) only [go_sem, bne_self_eq_false, beq_self_eq_true, true_and, and_true, decide_true, decide_false, wrap_i64, ↓reduceIte, Nat.reduceAdd, Nat.reduceSub, Nat.reduceMul, Nat.reduceEqDiff, Nat.reduceLeDiff, Int.reduceAdd, Int.reduceSub, Int.reduceNeg, Int.reduceLT, Int.reduceLE, Int.reduceEq, Int.reduceToNat, Nat.reduceMod, Kg]
            exact KD j
          · rw [decide_eq_false (fun e => hio (hin.1 e))]
            simp (disch := omega) only [go_sem, bne_self_eq_false, beq_self_eq_true, true_and, and_true, decide_true, decide_false, wrap_i64, ↓reduceIte, Nat.reduceAdd, Nat.reduceSub, Nat.reduceMul, Nat.reduceEqDiff, Nat.reduceLeDiff, Int.reduceAdd, Int.reduceSub, Int.reduceNeg, Int.reduceLT, Int.reduceLE, Int.reduceEq, Int.reduceToNat, Nat.reduceMod, Kg]
            obtain ⟨rfl, rfl, _⟩ := f6 hio
            refine ACalls.det (sameI_calls Γ who who _ (by omega)) ?_
            simp (disch := omega) only [go_sem, bne_self_eq_false, beq_self_eq_true, true_and, and_true, decide_true, decide_false, wrap_i64, ↓reduceIte, Nat.reduceAdd, Nat.reduceSub, Nat.reduceMul, Nat.reduceEqDiff, Nat.reduceLeDiff, Int.reduceAdd, Int.reduceSub, Int.reduceNeg, Int.reduceLT, Int.reduceLE, Int.reduceEq, Int.reduceToNat, Nat.reduceMod, Kg]
            refine ACalls.det (sameI_calls Γ lost lost _ (by omega)) ?_
            simp (disch := omega) only [go_sem, bne_self_eq_false, beq_self_eq_true, true_and, and_true, decide_true, decide_false, wrap_i64, ↓reduceIte, Nat.reduceAdd, Nat.reduceSub, Nat.reduceMul, Nat.reduceEqDiff, Nat.reduceLeDiff, Int.reduceAdd, Int.reduceSub, Int.reduceNeg, Int.reduceLT, Int.reduceLE, Int.reduceEq, Int.reduceToNat, Nat.reduceMod, Kg]
            exact KD j
end Go.Proofs.Ytopiamdfnaejeaa
