/- The law's own examples; its words on what it looks at. No conditions. -/
import Derived.Test.YtopiamdfnaejeaaLivH
set_option linter.unusedSimpArgs false
set_option linter.unusedVariables false
namespace Go.Proofs.Ytopiamdfnaejeaa
open Go Go.Proofs Go.Abs

structure Ex where
  g : Gt
  al : List Int
  a : List Int
  l : List Int
  b : List Int
  p : Bool
  q : Bool
  r : Bool
def encE (x : Ex) : AV := .agg ((encG x.g).cells ++ [.sl (encI x.al) .free, .sl (encI x.a) .free, .sl (encI x.l) .free, .sl (encI x.b) .free, .bool x.p, .bool x.q, .bool x.r])
def exL : List Ex := [⟨twoG, [2, 3], [2, 3], [2], [], true, true, false⟩, ⟨twoG, [1, 2, 3], [1, 2], [1, 2], [], true, true, false⟩, ⟨twoG, [3], [], [], [1, 2], false, false, true⟩,
  ⟨lf 5, [5], [5], [5], [], true, true, false⟩, ⟨lf 5, [], [], [], [5], false, false, true⟩, ⟨.mk (-1) 1 [], [5], [], [], [], false, false, true⟩, ⟨.mk (-1) 1 [lf 1, lf 2], [1, 2, 9], [1], [1, 2], [], true, true, false⟩]
theorem ex_facts : ∀ x ∈ exL, livP x.g x.al = (x.a, x.p, 0) ∧ marP x.g x.al = (x.l, x.q, 0) ∧ deaP x.g x.al = (x.b, x.r, 0) ∧ x.al.length ≤ 3 ∧ x.a.length ≤ 3 ∧ x.l.length ≤ 3 ∧ x.b.length ≤ 3 := by
  intro x hx
  have h : (exL.all fun x => decide (livP x.g x.al = (x.a, x.p, 0) ∧ marP x.g x.al = (x.l, x.q, 0) ∧ deaP x.g x.al = (x.b, x.r, 0) ∧ x.al.length ≤ 3 ∧ x.a.length ≤ 3 ∧ x.l.length ≤ 3 ∧ x.b.length ≤ 3)) = true := by decide +kernel
  exact of_decide_eq_true (List.all_eq_true.1 h x hx)
theorem sh_lf (n : Int) (h1 : -9223372036854775808 ≤ n) (h2 : n ≤ 9223372036854775807) : Sh (lf n) := .mk (by simp) (by simp) h1 h2 (by decide) (by decide)
theorem sh_two : Sh twoG := .mk (by simp) (by simp only [List.mem_cons, List.not_mem_nil, or_false]; rintro x (rfl | rfl | rfl) <;> exact sh_lf _ (by decide) (by decide)) (by decide) (by decide) (by decide) (by decide)
theorem ex_sh : ∀ x ∈ exL, Sh x.g := by
  simp only [exL, List.mem_cons, List.not_mem_nil, or_false]
  rintro x (rfl | rfl | rfl | rfl | rfl | rfl | rfl)
  · exact sh_two
  · exact sh_two
  · exact sh_two
  · exact sh_lf _ (by decide) (by decide)
  · exact sh_lf _ (by decide) (by decide)
  · exact .mk (by simp) (by simp) (by decide) (by decide) (by decide) (by decide)
  · exact .mk (by simp) (by simp only [List.mem_cons, List.not_mem_nil, or_false]; rintro x (rfl | rfl) <;> exact sh_lf _ (by decide) (by decide)) (by decide) (by decide) (by decide) (by decide)
set_option maxRecDepth 100000 in
theorem two_calls (Γ : Nat → Option (List AV)) (h : AH) :
    ACalls Try.prog Γ 45 [] h fun v h' => h' = h ∧ v = .agg [.int .i64 (-1), .int .i64 2, .sl ([lf 1, lf 2, lf 3].map encG) .free] := by
  refine ACalls.dropL ?_
  refine acalls_code (rs := [.cell 0 24]) Try.func45 rfl rfl rfl rfl Ty.mixed (by kernel_rfl) ?_
  simp (disch := omega) only [go_sem, bne_self_eq_false, beq_self_eq_true, true_and, and_true, decide_true, decide_false, wrap_i64, ↓reduceIte, Nat.reduceAdd, Nat.reduceSub, Nat.reduceMul, Nat.reduceEqDiff, Nat.reduceLeDiff, Int.reduceAdd, Int.reduceSub, Int.reduceNeg, Int.reduceLT, Int.reduceLE, Int.reduceEq, Int.reduceToNat, Nat.reduceMod]
  have e : [AV.agg [.int .i64 1, .int .i64 0, .sl [] .free], .agg [.int .i64 2, .int .i64 0, .sl [] .free], .agg [.int .i64 3, .int .i64 0, .sl [] .free]] = [lf 1, lf 2, lf 3].map encG := by simp [lf, encG_mk]
  rw [e]
  exact ⟨of_eq_true (rb_Gs _ _), rfl⟩
set_option maxRecDepth 100000 in
theorem sane_calls (Γ : Nat → Option (List AV)) (h : AH) :
    ACalls Try.prog Γ 14 [] h fun v h' => h' = h ∧ v = .bool true := by
  refine ACalls.drop ?_
  refine acalls_code (rs := [.tmp 0]) Try.func14 rfl rfl rfl rfl Ty.mixed (by kernel_rfl) ?_
  simp (disch := omega) only [go_sem, bne_self_eq_false, beq_self_eq_true, true_and, and_true, decide_true, decide_false, wrap_i64, ↓reduceIte, Nat.reduceAdd, Nat.reduceSub, Nat.reduceMul, Nat.reduceEqDiff, Nat.reduceLeDiff, Int.reduceAdd, Int.reduceSub, Int.reduceNeg, Int.reduceLT, Int.reduceLE, Int.reduceEq, Int.reduceToNat, Nat.reduceMod]
  refine ACalls.det (two_calls Γ _) ?_
  simp (disch := omega) only [go_sem, bne_self_eq_false, beq_self_eq_true, true_and, and_true, decide_true, decide_false, wrap_i64, ↓reduceIte, Nat.reduceAdd, Nat.reduceSub, Nat.reduceMul, Nat.reduceEqDiff, Nat.reduceLeDiff, Int.reduceAdd, Int.reduceSub, Int.reduceNeg, Int.reduceLT, Int.reduceLE, Int.reduceEq, Int.reduceToNat, Nat.reduceMod]
  refine ACalls.det (two_calls Γ _) ?_
  simp (disch := omega) only [go_sem, bne_self_eq_false, beq_self_eq_true, true_and, and_true, decide_true, decide_false, wrap_i64, ↓reduceIte, Nat.reduceAdd, Nat.reduceSub, Nat.reduceMul, Nat.reduceEqDiff, Nat.reduceLeDiff, Int.reduceAdd, Int.reduceSub, Int.reduceNeg, Int.reduceLT, Int.reduceLE, Int.reduceEq, Int.reduceToNat, Nat.reduceMod]
  refine ACalls.det (two_calls Γ _) ?_
  simp (disch := omega) only [go_sem, bne_self_eq_false, beq_self_eq_true, true_and, and_true, decide_true, decide_false, wrap_i64, ↓reduceIte, Nat.reduceAdd, Nat.reduceSub, Nat.reduceMul, Nat.reduceEqDiff, Nat.reduceLeDiff, Int.reduceAdd, Int.reduceSub, Int.reduceNeg, Int.reduceLT, Int.reduceLE, Int.reduceEq, Int.reduceToNat, Nat.reduceMod]
  refine AWP.keep [51, 52, 53] (AWP.lzs ?_)
  simp (disch := omega) only [go_sem, bne_self_eq_false, beq_self_eq_true, true_and, and_true, decide_true, decide_false, wrap_i64, ↓reduceIte, Nat.reduceAdd, Nat.reduceSub, Nat.reduceMul, Nat.reduceEqDiff, Nat.reduceLeDiff, Int.reduceAdd, Int.reduceSub, Int.reduceNeg, Int.reduceLT, Int.reduceLE, Int.reduceEq, Int.reduceToNat, Nat.reduceMod]
  obtain ⟨xs, hxs⟩ : ∃ xs, xs = exL := ⟨_, rfl⟩
  have hsh : ∀ x ∈ xs, Sh x.g := by rw [hxs]; exact ex_sh
  have hf := ex_facts
  rw [← hxs] at hf
  refine awp_loopL (β := AH) xs [51, 52, 53] (fun don _ => [(51, .sl (xs.map encE) .free), (52, .int .i64 7), (53, .int .i64 don.length)]) (fun j => h ++ j) (fun _ _ _ => True) [] ?_ (by simp) trivial Ty.mixed (by kernel_rfl) ?_ ?_
  · simp (disch := omega) only [go_sem, bne_self_eq_false, beq_self_eq_true, true_and, and_true, decide_true, decide_false, wrap_i64, ↓reduceIte, Nat.reduceAdd, Nat.reduceSub, Nat.reduceMul, Nat.reduceEqDiff, Nat.reduceLeDiff, Int.reduceAdd, Int.reduceSub, Int.reduceNeg, Int.reduceLT, Int.reduceLE, Int.reduceEq, Int.reduceToNat, Nat.reduceMod]
    simp [hxs, exL, encE, encI, encG_mk, lf, twoG, AV.cells]
  · rintro don x r j hx _
    have hxm : x ∈ xs := by rw [hx]; simp
    have hlen : don.length + 1 + r.length = 7 := by
      have : xs.length = 7 := by rw [hxs]; rfl
      rw [hx] at this; simp at this; omega
    obtain ⟨f1, f2, f3, f4, f5, f6, f7⟩ := hf x hxm
    have hs := hsh x hxm
    have e1 : (xs.map encE)[don.length]? = some (encE x) := by rw [hx]; simp
    clear hx hxs hf hsh hxm
    obtain ⟨⟨p, n, l⟩, al, a, b, c, bp, bq, br⟩ := x
    simp only at f1 f2 f3 f4 f5 f6 f7 hs
    have q1 := fun h => living_calls Γ (.mk p n l) al h hs (by omega)
    have q2 := fun h => margin_calls Γ (.mk p n l) al h hs (by omega)
    have q3 := fun h => dead_calls Γ (.mk p n l) al h hs (by omega)
    simp only [encG_mk, f1, f2, f3, encW] at q1 q2 q3
    simp only [encE, encG_mk, AV.cells, List.cons_append, List.nil_append] at e1
    simp (disch := omega) only [go_sem, bne_self_eq_false, beq_self_eq_true, true_and, and_true, decide_true, decide_false, wrap_i64, ↓reduceIte, Nat.reduceAdd, Nat.reduceSub, Nat.reduceMul, Nat.reduceEqDiff, Nat.reduceLeDiff, Int.reduceAdd, Int.reduceSub, Int.reduceNeg, Int.reduceLT, Int.reduceLE, Int.reduceEq, Int.reduceToNat, Nat.reduceMod, List.length_map]
    refine aIf.pos (by omega) ?_
    simp (disch := omega) only [go_sem, bne_self_eq_false, beq_self_eq_true, true_and, and_true, decide_true, decide_false, wrap_i64, ↓reduceIte, Nat.reduceAdd, Nat.reduceSub, Nat.reduceMul, Nat.reduceEqDiff, Nat.reduceLeDiff, Int.reduceAdd, Int.reduceSub, Int.reduceNeg, Int.reduceLT, Int.reduceLE, Int.reduceEq, Int.reduceToNat, Nat.reduceMod, List.length_map, e1]
    refine ACalls.det (q1 _) ?_
    simp (disch := omega) only [go_sem, bne_self_eq_false, beq_self_eq_true, true_and, and_true, decide_true, decide_false, wrap_i64, ↓reduceIte, Nat.reduceAdd, Nat.reduceSub, Nat.reduceMul, Nat.reduceEqDiff, Nat.reduceLeDiff, Int.reduceAdd, Int.reduceSub, Int.reduceNeg, Int.reduceLT, Int.reduceLE, Int.reduceEq, Int.reduceToNat, Nat.reduceMod]
    refine ACalls.det (q2 _) ?_
    simp (disch := omega) only [go_sem, bne_self_eq_false, beq_self_eq_true, true_and, and_true, decide_true, decide_false, wrap_i64, ↓reduceIte, Nat.reduceAdd, Nat.reduceSub, Nat.reduceMul, Nat.reduceEqDiff, Nat.reduceLeDiff, Int.reduceAdd, Int.reduceSub, Int.reduceNeg, Int.reduceLT, Int.reduceLE, Int.reduceEq, Int.reduceToNat, Nat.reduceMod]
    refine ACalls.det (q3 _) ?_
    simp (disch := omega) only [go_sem, bne_self_eq_false, beq_self_eq_true, true_and, and_true, decide_true, decide_false, wrap_i64, ↓reduceIte, Nat.reduceAdd, Nat.reduceSub, Nat.reduceMul, Nat.reduceEqDiff, Nat.reduceLeDiff, Int.reduceAdd, Int.reduceSub, Int.reduceNeg, Int.reduceLT, Int.reduceLE, Int.reduceEq, Int.reduceToNat, Nat.reduceMod]
    refine ACalls.det (sameI_calls Γ a a _ (by omega)) ?_
    simp (disch := omega) only [go_sem, bne_self_eq_false, beq_self_eq_true, true_and, and_true, decide_true, decide_false, wrap_i64, ↓reduceIte, Nat.reduceAdd, Nat.reduceSub, Nat.reduceMul, Nat.reduceEqDiff, Nat.reduceLeDiff, Int.reduceAdd, Int.reduceSub, Int.reduceNeg, Int.reduceLT, Int.reduceLE, Int.reduceEq, Int.reduceToNat, Nat.reduceMod]
    refine ACalls.det (sameI_calls Γ b b _ (by omega)) ?_
    simp (disch := omega) only [go_sem, bne_self_eq_false, beq_self_eq_true, true_and, and_true, decide_true, decide_false, wrap_i64, ↓reduceIte, Nat.reduceAdd, Nat.reduceSub, Nat.reduceMul, Nat.reduceEqDiff, Nat.reduceLeDiff, Int.reduceAdd, Int.reduceSub, Int.reduceNeg, Int.reduceLT, Int.reduceLE, Int.reduceEq, Int.reduceToNat, Nat.reduceMod]
    refine ACalls.det (sameI_calls Γ c c _ (by omega)) ?_
    simp (disch := omega) only [go_sem, bne_self_eq_false, beq_self_eq_true, true_and, and_true, decide_true, decide_false, wrap_i64, ↓reduceIte, Nat.reduceAdd, Nat.reduceSub, Nat.reduceMul, Nat.reduceEqDiff, Nat.reduceLeDiff, Int.reduceAdd, Int.reduceSub, Int.reduceNeg, Int.reduceLT, Int.reduceLE, Int.reduceEq, Int.reduceToNat, Nat.reduceMod]
    refine roundL_next (j ++ [.row [.int .i64 p, .int .i64 n, .sl (l.map encG) .free, .sl (encI al) .free, .sl (encI a) .free, .sl (encI b) .free, .sl (encI c) .free, .bool bp, .bool bq, .bool br] 59]) trivial ?_ ?_
    · simp (disch := omega) only [go_sem, bne_self_eq_false, beq_self_eq_true, true_and, and_true, decide_true, decide_false, wrap_i64, ↓reduceIte, Nat.reduceAdd, Nat.reduceSub, Nat.reduceMul, Nat.reduceEqDiff, Nat.reduceLeDiff, Int.reduceAdd, Int.reduceSub, Int.reduceNeg, Int.reduceLT, Int.reduceLE, Int.reduceEq, Int.reduceToNat, Nat.reduceMod, List.length_append]
    · simp
  · intro j _
    have : xs.length = 7 := by rw [hxs]; rfl
    simp (disch := omega) only [go_sem, bne_self_eq_false, beq_self_eq_true, true_and, and_true, decide_true, decide_false, wrap_i64, ↓reduceIte, Nat.reduceAdd, Nat.reduceSub, Nat.reduceMul, Nat.reduceEqDiff, Nat.reduceLeDiff, Int.reduceAdd, Int.reduceSub, Int.reduceNeg, Int.reduceLT, Int.reduceLE, Int.reduceEq, Int.reduceToNat, Nat.reduceMod]
    refine aIf.neg (by omega) ?_
    refine AWP.keep [] (aCode_ok Ty.mixed _ _ _ _ (by kernel_rfl) ?_)
    simp (disch := omega) only [go_sem, bne_self_eq_false, beq_self_eq_true, true_and, and_true, decide_true, decide_false, wrap_i64, ↓reduceIte, Nat.reduceAdd, Nat.reduceSub, Nat.reduceMul, Nat.reduceEqDiff, Nat.reduceLeDiff, Int.reduceAdd, Int.reduceSub, Int.reduceNeg, Int.reduceLT, Int.reduceLE, Int.reduceEq, Int.reduceToNat, Nat.reduceMod]
    refine ACalls.det (two_calls Γ _) ?_
    simp (disch := omega) only [go_sem, bne_self_eq_false, beq_self_eq_true, true_and, and_true, decide_true, decide_false, wrap_i64, ↓reduceIte, Nat.reduceAdd, Nat.reduceSub, Nat.reduceMul, Nat.reduceEqDiff, Nat.reduceLeDiff, Int.reduceAdd, Int.reduceSub, Int.reduceNeg, Int.reduceLT, Int.reduceLE, Int.reduceEq, Int.reduceToNat, Nat.reduceMod]
    have g1 : livP twoG [3, 3] = ([], false, 1) := by decide +kernel
    have g2 : deaP (lf 64) [] = ([], false, 220) := by decide +kernel
    have q1 := fun h => living_calls Γ twoG [3, 3] h sh_two (by simp)
    have q2 := fun h => dead_calls Γ (lf 64) [] h (sh_lf _ (by decide) (by decide)) (by simp)
    rw [g1] at q1
    rw [g2] at q2
    simp only [twoG, lf, encG_mk, encW] at q1 q2
    refine ACalls.det (ACalls.ofLoose (q1 _) (by simp [looseL, loose, encI, lf, encG_mk])) ?_
    simp (disch := omega) only [go_sem, bne_self_eq_false, beq_self_eq_true, true_and, and_true, decide_true, decide_false, wrap_i64, ↓reduceIte, Nat.reduceAdd, Nat.reduceSub, Nat.reduceMul, Nat.reduceEqDiff, Nat.reduceLeDiff, Int.reduceAdd, Int.reduceSub, Int.reduceNeg, Int.reduceLT, Int.reduceLE, Int.reduceEq, Int.reduceToNat, Nat.reduceMod]
    refine ACalls.det (ACalls.ofLoose (q2 _) (by simp [looseL, loose, encI, lf, encG_mk])) ?_
    simp (disch := omega) only [go_sem, bne_self_eq_false, beq_self_eq_true, true_and, and_true, decide_true, decide_false, wrap_i64, ↓reduceIte, Nat.reduceAdd, Nat.reduceSub, Nat.reduceMul, Nat.reduceEqDiff, Nat.reduceLeDiff, Int.reduceAdd, Int.reduceSub, Int.reduceNeg, Int.reduceLT, Int.reduceLE, Int.reduceEq, Int.reduceToNat, Nat.reduceMod]
    done
end Go.Proofs.Ytopiamdfnaejeaa
