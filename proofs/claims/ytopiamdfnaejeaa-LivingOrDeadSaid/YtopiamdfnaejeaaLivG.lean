/- The program's Living, Margin, Dead. No conditions. -/
import Derived.Test.YtopiamdfnaejeaaLivF
set_option linter.unusedSimpArgs false
set_option linter.unusedVariables false
namespace Go.Proofs.Ytopiamdfnaejeaa
open Go Go.Proofs Go.Abs

theorem holdsR_err (g : Gt) (who : List Int) (h : (holdsR g who).2 ≠ 0) : (holdsR g who).1 = false := by
  unfold holdsR at h ⊢
  split
  · rename_i h1
    rw [if_pos h1] at h
    split
    · rename_i h2; rw [if_pos h2] at h; exact absurd rfl h
    · rfl
  · rfl
set_option maxRecDepth 100000 in
theorem sholds_calls (Γ : Nat → Option (List AV)) (p n : Int) (l : List Gt) (ppl who : List Int) (h : AH) (hs : Sh (.mk p n l)) (hw : who.length ≤ 1000000) :
    ACalls Try.prog Γ 50 [strA p n l ppl, .sl (encI who) .free] h fun v h' => h' = h ∧ v = .bool (permF (.mk p n l) who) := by
  refine ACalls.drop ?_
  refine acalls_code (rs := [.tmp 4]) Try.func50 rfl rfl rfl rfl Ty.mixed (by kernel_rfl) ?_
  simp (disch := omega) only [go_sem, bne_self_eq_false, beq_self_eq_true, true_and, and_true, decide_true, decide_false, wrap_i64, ↓reduceIte, Nat.reduceAdd, Nat.reduceSub, Nat.reduceMul, Nat.reduceEqDiff, Nat.reduceLeDiff, Int.reduceAdd, Int.reduceSub, Int.reduceNeg, Int.reduceLT, Int.reduceLE, Int.reduceEq, Int.reduceToNat, Nat.reduceMod, strA]
  have hck := fun h => Holds_calls Γ (.mk p n l) who h hs (by omega)
  simp only [encG_mk] at hck
  refine ACalls.det (hck _) ?_
  simp (disch := omega) only [go_sem, bne_self_eq_false, beq_self_eq_true, true_and, and_true, decide_true, decide_false, wrap_i64, ↓reduceIte, Nat.reduceAdd, Nat.reduceSub, Nat.reduceMul, Nat.reduceEqDiff, Nat.reduceLeDiff, Int.reduceAdd, Int.reduceSub, Int.reduceNeg, Int.reduceLT, Int.reduceLE, Int.reduceEq, Int.reduceToNat, Nat.reduceMod, encR]
  cases hb : (holdsR (.mk p n l) who).1 with
  | false =>
    simp (disch := omega) only [go_sem, bne_self_eq_false, beq_self_eq_true, true_and, and_true, decide_true, decide_false, wrap_i64, ↓reduceIte, Nat.reduceAdd, Nat.reduceSub, Nat.reduceMul, Nat.reduceEqDiff, Nat.reduceLeDiff, Int.reduceAdd, Int.reduceSub, Int.reduceNeg, Int.reduceLT, Int.reduceLE, Int.reduceEq, Int.reduceToNat, Nat.reduceMod]
    simp [permF, hb]
  | true =>
    simp (disch := omega) only [go_sem, bne_self_eq_false, beq_self_eq_true, true_and, and_true, decide_true, decide_false, wrap_i64, ↓reduceIte, Nat.reduceAdd, Nat.reduceSub, Nat.reduceMul, Nat.reduceEqDiff, Nat.reduceLeDiff, Int.reduceAdd, Int.reduceSub, Int.reduceNeg, Int.reduceLT, Int.reduceLE, Int.reduceEq, Int.reduceToNat, Nat.reduceMod]
    have : (holdsR (.mk p n l) who).2 = 0 := Decidable.byContradiction fun e => by rw [holdsR_err _ _ e] at hb; cases hb
    simp [permF, hb, this]
set_option maxRecDepth 100000 in
theorem subsets_calls (Γ : Nat → Option (List AV)) (l : List Int) (h : AH) :
    ACalls Try.prog Γ 49 [.sl (encI l) .free] h fun v h' => h' = h ∧ v = .func 80 [] [.eptr [.sl (encI l) .free]] := by
  refine ACalls.endM ?_
  refine acalls_code (rs := [.tmp 2]) Try.func49 rfl rfl rfl rfl Ty.mixed (by kernel_rfl) ?_
  simp (disch := omega) only [go_sem, bne_self_eq_false, beq_self_eq_true, true_and, and_true, decide_true, decide_false, wrap_i64, ↓reduceIte, Nat.reduceAdd, Nat.reduceSub, Nat.reduceMul, Nat.reduceEqDiff, Nat.reduceLeDiff, Int.reduceAdd, Int.reduceSub, Int.reduceNeg, Int.reduceLT, Int.reduceLE, Int.reduceEq, Int.reduceToNat, Nat.reduceMod]
  refine .inr ⟨0, [.sl (encI l) .free], 25, by simp (disch := omega) only [go_sem, bne_self_eq_false, beq_self_eq_true, true_and, and_true, decide_true, decide_false, wrap_i64, ↓reduceIte, Nat.reduceAdd, Nat.reduceSub, Nat.reduceMul, Nat.reduceEqDiff, Nat.reduceLeDiff, Int.reduceAdd, Int.reduceSub, Int.reduceNeg, Int.reduceLT, Int.reduceLE, Int.reduceEq, Int.reduceToNat, Nat.reduceMod], ?_⟩
  have e : fzV (h.length + 0) [.sl (encI l) .free] (.func 80 [] [.ptr (some (h.length, 0))]) = .func 80 [] [.eptr [.sl (encI l) .free]] := by
    simp [fzV, fzL]
  rw [e]
  refine ⟨.func (by simp) fun j c hc => ?_, rfl⟩
  cases j with
  | zero =>
    simp only [List.getElem?_cons_zero, Option.some.injEq] at hc; subst hc
    refine .eptr fun j c hc => ?_
    cases j with
    | zero => simp only [List.getElem?_cons_zero, Option.some.injEq] at hc; subst hc; exact of_eq_true (rb_I _ l)
    | succ j => simp at hc
  | succ j => simp at hc
set_option maxRecDepth 100000 in
theorem mar1_calls (Γ : Nat → Option (List AV)) (p n : Int) (l : List Gt) (ppl lv s : List Int) (i j : Nat) (h : AH) (hs : Sh (.mk p n l)) (hl : lv.length ≤ 1000000) (hw : s.length ≤ 1000000)
    (hi : h[i]? = some (.row [.int .i64 p, .int .i64 n, .sl (l.map encG) .free, .sl (encI ppl) .free] 62)) (hj : h[j]? = some (.row [.sl (encI lv) .free] 25)) :
    ACalls Try.prog Γ 53 [.sl (encI s) .free, .ptr (some (i, 0)), .ptr (some (j, 0))] h fun v h' => h' = h ∧ v = .bool (!permF (.mk p n l) (wtF lv s)) := by
  refine acalls_code (rs := [.tmp 4]) Try.func53 rfl rfl rfl rfl Ty.mixed (by kernel_rfl) ?_
  have hh := fun h => sholds_calls Γ p n l ppl (wtF lv s) h hs (Nat.le_trans (List.length_filter_le _ _) hl)
  simp only [strA] at hh
  simp (disch := omega) only [go_sem, bne_self_eq_false, beq_self_eq_true, true_and, and_true, decide_true, decide_false, wrap_i64, ↓reduceIte, Nat.reduceAdd, Nat.reduceSub, Nat.reduceMul, Nat.reduceEqDiff, Nat.reduceLeDiff, Int.reduceAdd, Int.reduceSub, Int.reduceNeg, Int.reduceLT, Int.reduceLE, Int.reduceEq, Int.reduceToNat, Nat.reduceMod, hi, hj]
  refine aCallF.intro (fun _ => without_calls' Γ lv s _ hl hw) ?_
  simp (disch := omega) only [go_sem, bne_self_eq_false, beq_self_eq_true, true_and, and_true, decide_true, decide_false, wrap_i64, ↓reduceIte, Nat.reduceAdd, Nat.reduceSub, Nat.reduceMul, Nat.reduceEqDiff, Nat.reduceLeDiff, Int.reduceAdd, Int.reduceSub, Int.reduceNeg, Int.reduceLT, Int.reduceLE, Int.reduceEq, Int.reduceToNat, Nat.reduceMod]
  refine aCallF.intro (fun _ => hh _) ?_
  simp (disch := omega) only [go_sem, bne_self_eq_false, beq_self_eq_true, true_and, and_true, decide_true, decide_false, wrap_i64, ↓reduceIte, Nat.reduceAdd, Nat.reduceSub, Nat.reduceMul, Nat.reduceEqDiff, Nat.reduceLeDiff, Int.reduceAdd, Int.reduceSub, Int.reduceNeg, Int.reduceLT, Int.reduceLE, Int.reduceEq, Int.reduceToNat, Nat.reduceMod]
set_option maxRecDepth 100000 in
theorem dea1_calls (Γ : Nat → Option (List AV)) (p n : Int) (l : List Gt) (ppl s : List Int) (i : Nat) (h : AH) (hs : Sh (.mk p n l)) (hl : ppl.length ≤ 1000000) (hw : s.length ≤ 1000000)
    (hi : h[i]? = some (.row [.int .i64 p, .int .i64 n, .sl (l.map encG) .free, .sl (encI ppl) .free] 62)) :
    ACalls Try.prog Γ 54 [.sl (encI s) .free, .ptr (some (i, 0))] h fun v h' => h' = h ∧ v = .bool (!permF (.mk p n l) (wtF ppl s)) := by
  refine acalls_code (rs := [.tmp 3]) Try.func54 rfl rfl rfl rfl Ty.mixed (by kernel_rfl) ?_
  have hh := fun h => sholds_calls Γ p n l ppl (wtF ppl s) h hs (Nat.le_trans (List.length_filter_le _ _) hl)
  simp only [strA] at hh
  simp (disch := omega) only [go_sem, bne_self_eq_false, beq_self_eq_true, true_and, and_true, decide_true, decide_false, wrap_i64, ↓reduceIte, Nat.reduceAdd, Nat.reduceSub, Nat.reduceMul, Nat.reduceEqDiff, Nat.reduceLeDiff, Int.reduceAdd, Int.reduceSub, Int.reduceNeg, Int.reduceLT, Int.reduceLE, Int.reduceEq, Int.reduceToNat, Nat.reduceMod, hi]
  refine aCallF.intro (fun _ => without_calls' Γ ppl s _ hl hw) ?_
  simp (disch := omega) only [go_sem, bne_self_eq_false, beq_self_eq_true, true_and, and_true, decide_true, decide_false, wrap_i64, ↓reduceIte, Nat.reduceAdd, Nat.reduceSub, Nat.reduceMul, Nat.reduceEqDiff, Nat.reduceLeDiff, Int.reduceAdd, Int.reduceSub, Int.reduceNeg, Int.reduceLT, Int.reduceLE, Int.reduceEq, Int.reduceToNat, Nat.reduceMod]
  refine aCallF.intro (fun _ => hh _) ?_
  simp (disch := omega) only [go_sem, bne_self_eq_false, beq_self_eq_true, true_and, and_true, decide_true, decide_false, wrap_i64, ↓reduceIte, Nat.reduceAdd, Nat.reduceSub, Nat.reduceMul, Nat.reduceEqDiff, Nat.reduceLeDiff, Int.reduceAdd, Int.reduceSub, Int.reduceNeg, Int.reduceLT, Int.reduceLE, Int.reduceEq, Int.reduceToNat, Nat.reduceMod]

/-! ### Living, Margin, Dead -/
def peoF (g : Gt) : List Int := sortI (keysF [] g)
theorem lerr_len {g : Gt} {al : List Int} (h : lerrF g al = 0) : checkF g = 0 ∧ (peoF g).length ≤ 12 := by
  unfold lerrF at h
  split at h
  · rename_i h1
    split at h
    · omega
    · exact ⟨h1, by unfold peoF; rw [(sortI_perm _).length_eq]; omega⟩
  · rename_i h1; exact absurd h h1
theorem wt_wt (l al : List Int) : wtF l (wtF l al) = bothF l al := by
  unfold wtF bothF
  apply List.filter_congr
  intro x hx
  by_cases h : x ∈ al <;> simp [h, hx]
def livP (g : Gt) (al : List Int) : List Int × Bool × Int :=
  if lerrF g al = 0 then firstF (allF (bothF (peoF g) al)) (permF g) else ([], false, lerrF g al)
def marP (g : Gt) (al : List Int) : List Int × Bool × Int :=
  if lerrF g al = 0 then (if permF g al then firstF (allF (bothF (peoF g) al)) (fun s => !permF g (wtF (bothF (peoF g) al) s)) else ([], false, 0)) else ([], false, lerrF g al)
def deaP (g : Gt) (al : List Int) : List Int × Bool × Int :=
  if lerrF g al = 0 then (if permF g al then ([], false, 0) else firstF (allF (wtF (peoF g) al)) (fun s => !permF g (wtF (peoF g) s))) else ([], false, lerrF g al)
set_option maxRecDepth 100000 in
theorem living_calls (Γ : Nat → Option (List AV)) (g : Gt) (al : List Int) (h : AH) (hs : Sh g) (hal : al.length ≤ 1000000) :
    ACalls Try.prog Γ 16 [encG g, .sl (encI al) .free] h fun v h' => h' = h ∧ v = encW (livP g al) := by
  cases g with | mk p n l =>
  refine ACalls.dropL ?_
  refine acalls_code (rs := [.tmp 4, .tmp 5, .tmp 6]) Try.func16 rfl rfl rfl rfl Ty.mixed (by kernel_rfl) ?_
  have hck := fun h => lcheck_calls Γ (.mk p n l) al h hs (by omega)
  simp only [encG_mk, lstrF, strA] at hck
  simp only [encG_mk]
  simp (disch := omega) only [go_sem, bne_self_eq_false, beq_self_eq_true, true_and, and_true, decide_true, decide_false, wrap_i64, ↓reduceIte, Nat.reduceAdd, Nat.reduceSub, Nat.reduceMul, Nat.reduceEqDiff, Nat.reduceLeDiff, Int.reduceAdd, Int.reduceSub, Int.reduceNeg, Int.reduceLT, Int.reduceLE, Int.reduceEq, Int.reduceToNat, Nat.reduceMod]
  refine ACalls.det (hck _) ?_
  by_cases he : lerrF (.mk p n l) al = 0
  · obtain ⟨_, hpl⟩ := lerr_len he
    rw [if_pos he, he]
    simp (disch := omega) only [go_sem, bne_self_eq_false, beq_self_eq_true, true_and, and_true, decide_true, decide_false, wrap_i64, ↓reduceIte, Nat.reduceAdd, Nat.reduceSub, Nat.reduceMul, Nat.reduceEqDiff, Nat.reduceLeDiff, Int.reduceAdd, Int.reduceSub, Int.reduceNeg, Int.reduceLT, Int.reduceLE, Int.reduceEq, Int.reduceToNat, Nat.reduceMod]
    refine aCallF.intro (fun _ => without_calls' Γ (peoF (.mk p n l)) al _ (by omega) hal) ?_
    simp (disch := omega) only [go_sem, bne_self_eq_false, beq_self_eq_true, true_and, and_true, decide_true, decide_false, wrap_i64, ↓reduceIte, Nat.reduceAdd, Nat.reduceSub, Nat.reduceMul, Nat.reduceEqDiff, Nat.reduceLeDiff, Int.reduceAdd, Int.reduceSub, Int.reduceNeg, Int.reduceLT, Int.reduceLE, Int.reduceEq, Int.reduceToNat, Nat.reduceMod]
    refine aCallF.intro (fun _ => without_calls' Γ (peoF (.mk p n l)) (wtF (peoF (.mk p n l)) al) _ (by omega) (by have := List.length_filter_le (fun x => !decide (x ∈ al)) (peoF (.mk p n l)); unfold wtF; omega)) ?_
    simp (disch := omega) only [go_sem, bne_self_eq_false, beq_self_eq_true, true_and, and_true, decide_true, decide_false, wrap_i64, ↓reduceIte, Nat.reduceAdd, Nat.reduceSub, Nat.reduceMul, Nat.reduceEqDiff, Nat.reduceLeDiff, Int.reduceAdd, Int.reduceSub, Int.reduceNeg, Int.reduceLT, Int.reduceLE, Int.reduceEq, Int.reduceToNat, Nat.reduceMod]
    rw [wt_wt]
    have hbl : (bothF (peoF (.mk p n l)) al).length ≤ 12 := Nat.le_trans (List.length_filter_le _ _) hpl
    refine aCallF.intro (fun _ => subsets_calls Γ (bothF (peoF (.mk p n l)) al) _) ?_
    simp (disch := omega) only [go_sem, bne_self_eq_false, beq_self_eq_true, true_and, and_true, decide_true, decide_false, wrap_i64, ↓reduceIte, Nat.reduceAdd, Nat.reduceSub, Nat.reduceMul, Nat.reduceEqDiff, Nat.reduceLeDiff, Int.reduceAdd, Int.reduceSub, Int.reduceNeg, Int.reduceLT, Int.reduceLE, Int.reduceEq, Int.reduceToNat, Nat.reduceMod]
    have hh := fun (s : List Int) (h : AH) (hl : s.length ≤ 12) => sholds_calls Γ p n l (peoF (.mk p n l)) s h hs (by omega)
    simp only [strA] at hh
    have hfi := fun h => first_calls Γ (bothF (peoF (.mk p n l)) al) (permF (.mk p n l)) 50 [.agg [.int .i64 p, .int .i64 n, .sl (l.map encG) .free, .sl (encI (peoF (.mk p n l))) .free]] [] h hbl (fun j s hl => hh s _ hl)
    have hr : livP (.mk p n l) al = firstF (allF (bothF (peoF (.mk p n l)) al)) (permF (.mk p n l)) := by rw [livP, if_pos he]
    rw [hr, firstF]
    cases hf : (allF (bothF (peoF (.mk p n l)) al)).find? (permF (.mk p n l)) with
    | none =>
      rw [hf] at hfi
      simp only [firstB] at hfi
      refine aCallF.intro (fun _ => hfi _) ?_
      simp (disch := omega) only [go_sem, bne_self_eq_false, beq_self_eq_true, true_and, and_true, decide_true, decide_false, wrap_i64, ↓reduceIte, Nat.reduceAdd, Nat.reduceSub, Nat.reduceMul, Nat.reduceEqDiff, Nat.reduceLeDiff, Int.reduceAdd, Int.reduceSub, Int.reduceNeg, Int.reduceLT, Int.reduceLE, Int.reduceEq, Int.reduceToNat, Nat.reduceMod]
      simp [encW, encI]
    | some s =>
      rw [hf] at hfi
      simp only [firstB] at hfi
      refine aCallF.intro (fun _ => hfi _) ?_
      simp (disch := omega) only [go_sem, bne_self_eq_false, beq_self_eq_true, true_and, and_true, decide_true, decide_false, wrap_i64, ↓reduceIte, Nat.reduceAdd, Nat.reduceSub, Nat.reduceMul, Nat.reduceEqDiff, Nat.reduceLeDiff, Int.reduceAdd, Int.reduceSub, Int.reduceNeg, Int.reduceLT, Int.reduceLE, Int.reduceEq, Int.reduceToNat, Nat.reduceMod]
      simp [encW, encI]
  · rw [if_neg he]
    simp (disch := omega) only [go_sem, bne_self_eq_false, beq_self_eq_true, true_and, and_true, decide_true, decide_false, wrap_i64, ↓reduceIte, Nat.reduceAdd, Nat.reduceSub, Nat.reduceMul, Nat.reduceEqDiff, Nat.reduceLeDiff, Int.reduceAdd, Int.reduceSub, Int.reduceNeg, Int.reduceLT, Int.reduceLE, Int.reduceEq, Int.reduceToNat, Nat.reduceMod]
    refine aIf.neg he ?_
    simp (disch := omega) only [go_sem, bne_self_eq_false, beq_self_eq_true, true_and, and_true, decide_true, decide_false, wrap_i64, ↓reduceIte, Nat.reduceAdd, Nat.reduceSub, Nat.reduceMul, Nat.reduceEqDiff, Nat.reduceLeDiff, Int.reduceAdd, Int.reduceSub, Int.reduceNeg, Int.reduceLT, Int.reduceLE, Int.reduceEq, Int.reduceToNat, Nat.reduceMod]
    simp [livP, he, encW, encI]
set_option maxRecDepth 100000 in
theorem dead_calls (Γ : Nat → Option (List AV)) (g : Gt) (al : List Int) (h : AH) (hs : Sh g) (hal : al.length ≤ 1000000) :
    ACalls Try.prog Γ 21 [encG g, .sl (encI al) .free] h fun v h' => h' = h ∧ v = encW (deaP g al) := by
  cases g with | mk p n l =>
  refine ACalls.dropL ?_
  refine acalls_code (rs := [.tmp 4, .tmp 5, .tmp 6]) Try.func21 rfl rfl rfl rfl Ty.mixed (by kernel_rfl) ?_
  have hck := fun h => lcheck_calls Γ (.mk p n l) al h hs (by omega)
  simp only [encG_mk, lstrF, strA] at hck
  simp only [encG_mk]
  simp (disch := omega) only [go_sem, bne_self_eq_false, beq_self_eq_true, true_and, and_true, decide_true, decide_false, wrap_i64, ↓reduceIte, Nat.reduceAdd, Nat.reduceSub, Nat.reduceMul, Nat.reduceEqDiff, Nat.reduceLeDiff, Int.reduceAdd, Int.reduceSub, Int.reduceNeg, Int.reduceLT, Int.reduceLE, Int.reduceEq, Int.reduceToNat, Nat.reduceMod]
  refine ACalls.det (hck _) ?_
  by_cases he : lerrF (.mk p n l) al = 0
  · obtain ⟨_, hpl⟩ := lerr_len he
    rw [if_pos he, he]
    simp (disch := omega) only [go_sem, bne_self_eq_false, beq_self_eq_true, true_and, and_true, decide_true, decide_false, wrap_i64, ↓reduceIte, Nat.reduceAdd, Nat.reduceSub, Nat.reduceMul, Nat.reduceEqDiff, Nat.reduceLeDiff, Int.reduceAdd, Int.reduceSub, Int.reduceNeg, Int.reduceLT, Int.reduceLE, Int.reduceEq, Int.reduceToNat, Nat.reduceMod]
    have hh := fun (s : List Int) (h : AH) (hl : s.length ≤ 1000000) => sholds_calls Γ p n l (peoF (.mk p n l)) s h hs hl
    simp only [strA] at hh
    refine ACalls.det (hh al _ hal) ?_
    cases hpe : permF (.mk p n l) al with
    | true =>
      simp (disch := omega) only [go_sem, bne_self_eq_false, beq_self_eq_true, true_and, and_true, decide_true, decide_false, wrap_i64, ↓reduceIte, Nat.reduceAdd, Nat.reduceSub, Nat.reduceMul, Nat.reduceEqDiff, Nat.reduceLeDiff, Int.reduceAdd, Int.reduceSub, Int.reduceNeg, Int.reduceLT, Int.reduceLE, Int.reduceEq, Int.reduceToNat, Nat.reduceMod]
      simp [deaP, he, hpe, encW, encI]
    | false =>
      simp (disch := omega) only [go_sem, bne_self_eq_false, beq_self_eq_true, true_and, and_true, decide_true, decide_false, wrap_i64, ↓reduceIte, Nat.reduceAdd, Nat.reduceSub, Nat.reduceMul, Nat.reduceEqDiff, Nat.reduceLeDiff, Int.reduceAdd, Int.reduceSub, Int.reduceNeg, Int.reduceLT, Int.reduceLE, Int.reduceEq, Int.reduceToNat, Nat.reduceMod]
      refine ACalls.det (without_calls' Γ (peoF (.mk p n l)) al _ (by omega) hal) ?_
      simp (disch := omega) only [go_sem, bne_self_eq_false, beq_self_eq_true, true_and, and_true, decide_true, decide_false, wrap_i64, ↓reduceIte, Nat.reduceAdd, Nat.reduceSub, Nat.reduceMul, Nat.reduceEqDiff, Nat.reduceLeDiff, Int.reduceAdd, Int.reduceSub, Int.reduceNeg, Int.reduceLT, Int.reduceLE, Int.reduceEq, Int.reduceToNat, Nat.reduceMod]
      have hbl : (wtF (peoF (.mk p n l)) al).length ≤ 12 := Nat.le_trans (List.length_filter_le _ _) hpl
      refine ACalls.det (subsets_calls Γ (wtF (peoF (.mk p n l)) al) _) ?_
      simp (disch := omega) only [go_sem, bne_self_eq_false, beq_self_eq_true, true_and, and_true, decide_true, decide_false, wrap_i64, ↓reduceIte, Nat.reduceAdd, Nat.reduceSub, Nat.reduceMul, Nat.reduceEqDiff, Nat.reduceLeDiff, Int.reduceAdd, Int.reduceSub, Int.reduceNeg, Int.reduceLT, Int.reduceLE, Int.reduceEq, Int.reduceToNat, Nat.reduceMod]
      have hfi := first_calls Γ (wtF (peoF (.mk p n l)) al) (fun s => !permF (.mk p n l) (wtF (peoF (.mk p n l)) s)) 54 [] [.ptr (some (h.length + 1, 0))]
        (h ++ [.row [.int .i64 p, .int .i64 n, .sl (l.map encG) .free] 24, .row [.int .i64 p, .int .i64 n, .sl (l.map encG) .free, .sl (encI (peoF (.mk p n l))) .free] 62]) hbl
        (fun j s hl => dea1_calls Γ p n l (peoF (.mk p n l)) s _ _ hs (by omega) (by omega) (by simp))
      have hr : deaP (.mk p n l) al = firstF (allF (wtF (peoF (.mk p n l)) al)) (fun s => !permF (.mk p n l) (wtF (peoF (.mk p n l)) s)) := by rw [deaP, if_pos he, if_neg (by simp [hpe])]
      rw [hr, firstF]
      cases hf : (allF (wtF (peoF (.mk p n l)) al)).find? (fun s => !permF (.mk p n l) (wtF (peoF (.mk p n l)) s)) with
      | none =>
        rw [hf] at hfi
        simp only [firstB] at hfi
        refine ACalls.det hfi ?_
        simp (disch := omega) only [go_sem, bne_self_eq_false, beq_self_eq_true, true_and, and_true, decide_true, decide_false, wrap_i64, ↓reduceIte, Nat.reduceAdd, Nat.reduceSub, Nat.reduceMul, Nat.reduceEqDiff, Nat.reduceLeDiff, Int.reduceAdd, Int.reduceSub, Int.reduceNeg, Int.reduceLT, Int.reduceLE, Int.reduceEq, Int.reduceToNat, Nat.reduceMod]
        simp [encW, encI]
      | some s =>
        rw [hf] at hfi
        simp only [firstB] at hfi
        refine ACalls.det hfi ?_
        simp (disch := omega) only [go_sem, bne_self_eq_false, beq_self_eq_true, true_and, and_true, decide_true, decide_false, wrap_i64, ↓reduceIte, Nat.reduceAdd, Nat.reduceSub, Nat.reduceMul, Nat.reduceEqDiff, Nat.reduceLeDiff, Int.reduceAdd, Int.reduceSub, Int.reduceNeg, Int.reduceLT, Int.reduceLE, Int.reduceEq, Int.reduceToNat, Nat.reduceMod]
        simp [encW, encI]
  · rw [if_neg he]
    simp (disch := omega) only [go_sem, bne_self_eq_false, beq_self_eq_true, true_and, and_true, decide_true, decide_false, wrap_i64, ↓reduceIte, Nat.reduceAdd, Nat.reduceSub, Nat.reduceMul, Nat.reduceEqDiff, Nat.reduceLeDiff, Int.reduceAdd, Int.reduceSub, Int.reduceNeg, Int.reduceLT, Int.reduceLE, Int.reduceEq, Int.reduceToNat, Nat.reduceMod]
    refine aIf.neg he ?_
    simp (disch := omega) only [go_sem, bne_self_eq_false, beq_self_eq_true, true_and, and_true, decide_true, decide_false, wrap_i64, ↓reduceIte, Nat.reduceAdd, Nat.reduceSub, Nat.reduceMul, Nat.reduceEqDiff, Nat.reduceLeDiff, Int.reduceAdd, Int.reduceSub, Int.reduceNeg, Int.reduceLT, Int.reduceLE, Int.reduceEq, Int.reduceToNat, Nat.reduceMod]
    simp [deaP, he, encW, encI]
set_option maxRecDepth 100000 in
theorem margin_calls (Γ : Nat → Option (List AV)) (g : Gt) (al : List Int) (h : AH) (hs : Sh g) (hal : al.length ≤ 1000000) :
    ACalls Try.prog Γ 19 [encG g, .sl (encI al) .free] h fun v h' => h' = h ∧ v = encW (marP g al) := by
  cases g with | mk p n l =>
  refine ACalls.dropL ?_
  refine acalls_code (rs := [.tmp 4, .tmp 5, .tmp 6]) Try.func19 rfl rfl rfl rfl Ty.mixed (by kernel_rfl) ?_
  have hck := fun h => lcheck_calls Γ (.mk p n l) al h hs (by omega)
  simp only [encG_mk, lstrF, strA] at hck
  simp only [encG_mk]
  simp (disch := omega) only [go_sem, bne_self_eq_false, beq_self_eq_true, true_and, and_true, decide_true, decide_false, wrap_i64, ↓reduceIte, Nat.reduceAdd, Nat.reduceSub, Nat.reduceMul, Nat.reduceEqDiff, Nat.reduceLeDiff, Int.reduceAdd, Int.reduceSub, Int.reduceNeg, Int.reduceLT, Int.reduceLE, Int.reduceEq, Int.reduceToNat, Nat.reduceMod]
  refine ACalls.det (hck _) ?_
  by_cases he : lerrF (.mk p n l) al = 0
  · obtain ⟨_, hpl⟩ := lerr_len he
    rw [if_pos he, he]
    simp (disch := omega) only [go_sem, bne_self_eq_false, beq_self_eq_true, true_and, and_true, decide_true, decide_false, wrap_i64, ↓reduceIte, Nat.reduceAdd, Nat.reduceSub, Nat.reduceMul, Nat.reduceEqDiff, Nat.reduceLeDiff, Int.reduceAdd, Int.reduceSub, Int.reduceNeg, Int.reduceLT, Int.reduceLE, Int.reduceEq, Int.reduceToNat, Nat.reduceMod]
    have hh := fun (s : List Int) (h : AH) (hl : s.length ≤ 1000000) => sholds_calls Γ p n l (peoF (.mk p n l)) s h hs hl
    simp only [strA] at hh
    refine ACalls.det (hh al _ hal) ?_
    cases hpe : permF (.mk p n l) al with
    | false =>
      simp (disch := omega) only [go_sem, bne_self_eq_false, beq_self_eq_true, true_and, and_true, decide_true, decide_false, wrap_i64, ↓reduceIte, Nat.reduceAdd, Nat.reduceSub, Nat.reduceMul, Nat.reduceEqDiff, Nat.reduceLeDiff, Int.reduceAdd, Int.reduceSub, Int.reduceNeg, Int.reduceLT, Int.reduceLE, Int.reduceEq, Int.reduceToNat, Nat.reduceMod]
      simp [marP, he, hpe, encW, encI]
    | true =>
      simp (disch := omega) only [go_sem, bne_self_eq_false, beq_self_eq_true, true_and, and_true, decide_true, decide_false, wrap_i64, ↓reduceIte, Nat.reduceAdd, Nat.reduceSub, Nat.reduceMul, Nat.reduceEqDiff, Nat.reduceLeDiff, Int.reduceAdd, Int.reduceSub, Int.reduceNeg, Int.reduceLT, Int.reduceLE, Int.reduceEq, Int.reduceToNat, Nat.reduceMod]
      refine aCallF.intro (fun _ => without_calls' Γ (peoF (.mk p n l)) al _ (by omega) hal) ?_
      simp (disch := omega) only [go_sem, bne_self_eq_false, beq_self_eq_true, true_and, and_true, decide_true, decide_false, wrap_i64, ↓reduceIte, Nat.reduceAdd, Nat.reduceSub, Nat.reduceMul, Nat.reduceEqDiff, Nat.reduceLeDiff, Int.reduceAdd, Int.reduceSub, Int.reduceNeg, Int.reduceLT, Int.reduceLE, Int.reduceEq, Int.reduceToNat, Nat.reduceMod]
      refine aCallF.intro (fun _ => without_calls' Γ (peoF (.mk p n l)) (wtF (peoF (.mk p n l)) al) _ (by omega) (by have := List.length_filter_le (fun x => !decide (x ∈ al)) (peoF (.mk p n l)); unfold wtF; omega)) ?_
      simp (disch := omega) only [go_sem, bne_self_eq_false, beq_self_eq_true, true_and, and_true, decide_true, decide_false, wrap_i64, ↓reduceIte, Nat.reduceAdd, Nat.reduceSub, Nat.reduceMul, Nat.reduceEqDiff, Nat.reduceLeDiff, Int.reduceAdd, Int.reduceSub, Int.reduceNeg, Int.reduceLT, Int.reduceLE, Int.reduceEq, Int.reduceToNat, Nat.reduceMod]
      rw [wt_wt]
      have hbl : (bothF (peoF (.mk p n l)) al).length ≤ 12 := Nat.le_trans (List.length_filter_le _ _) hpl
      refine ACalls.det (subsets_calls Γ (bothF (peoF (.mk p n l)) al) _) ?_
      simp (disch := omega) only [go_sem, bne_self_eq_false, beq_self_eq_true, true_and, and_true, decide_true, decide_false, wrap_i64, ↓reduceIte, Nat.reduceAdd, Nat.reduceSub, Nat.reduceMul, Nat.reduceEqDiff, Nat.reduceLeDiff, Int.reduceAdd, Int.reduceSub, Int.reduceNeg, Int.reduceLT, Int.reduceLE, Int.reduceEq, Int.reduceToNat, Nat.reduceMod]
      have hfi := first_calls Γ (bothF (peoF (.mk p n l)) al) (fun s => !permF (.mk p n l) (wtF (bothF (peoF (.mk p n l)) al) s)) 53 [] [.ptr (some (h.length + 1, 0)), .ptr (some (h.length + 2, 0))]
        (h ++ [.row [.int .i64 p, .int .i64 n, .sl (l.map encG) .free] 24, .row [.int .i64 p, .int .i64 n, .sl (l.map encG) .free, .sl (encI (peoF (.mk p n l))) .free] 62, .row [.sl (encI (bothF (peoF (.mk p n l)) al)) .free] 25]) hbl
        (fun j s hl => mar1_calls Γ p n l (peoF (.mk p n l)) (bothF (peoF (.mk p n l)) al) s _ _ _ hs (by omega) (by omega) (by simp) (by simp))
      have hr : marP (.mk p n l) al = firstF (allF (bothF (peoF (.mk p n l)) al)) (fun s => !permF (.mk p n l) (wtF (bothF (peoF (.mk p n l)) al) s)) := by rw [marP, if_pos he, if_pos hpe]
      rw [hr, firstF]
      cases hf : (allF (bothF (peoF (.mk p n l)) al)).find? (fun s => !permF (.mk p n l) (wtF (bothF (peoF (.mk p n l)) al) s)) with
      | none =>
        rw [hf] at hfi
        simp only [firstB] at hfi
        refine ACalls.det hfi ?_
        simp (disch := omega) only [go_sem, bne_self_eq_false, beq_self_eq_true, true_and, and_true, decide_true, decide_false, wrap_i64, ↓reduceIte, Nat.reduceAdd, Nat.reduceSub, Nat.reduceMul, Nat.reduceEqDiff, Nat.reduceLeDiff, Int.reduceAdd, Int.reduceSub, Int.reduceNeg, Int.reduceLT, Int.reduceLE, Int.reduceEq, Int.reduceToNat, Nat.reduceMod]
        simp [encW, encI]
      | some s =>
        rw [hf] at hfi
        simp only [firstB] at hfi
        refine ACalls.det hfi ?_
        simp (disch := omega) only [go_sem, bne_self_eq_false, beq_self_eq_true, true_and, and_true, decide_true, decide_false, wrap_i64, ↓reduceIte, Nat.reduceAdd, Nat.reduceSub, Nat.reduceMul, Nat.reduceEqDiff, Nat.reduceLeDiff, Int.reduceAdd, Int.reduceSub, Int.reduceNeg, Int.reduceLT, Int.reduceLE, Int.reduceEq, Int.reduceToNat, Nat.reduceMod]
        simp [encW, encI]
  · rw [if_neg he]
    simp (disch := omega) only [go_sem, bne_self_eq_false, beq_self_eq_true, true_and, and_true, decide_true, decide_false, wrap_i64, ↓reduceIte, Nat.reduceAdd, Nat.reduceSub, Nat.reduceMul, Nat.reduceEqDiff, Nat.reduceLeDiff, Int.reduceAdd, Int.reduceSub, Int.reduceNeg, Int.reduceLT, Int.reduceLE, Int.reduceEq, Int.reduceToNat, Nat.reduceMod]
    refine aIf.neg he ?_
    simp (disch := omega) only [go_sem, bne_self_eq_false, beq_self_eq_true, true_and, and_true, decide_true, decide_false, wrap_i64, ↓reduceIte, Nat.reduceAdd, Nat.reduceSub, Nat.reduceMul, Nat.reduceEqDiff, Nat.reduceLeDiff, Int.reduceAdd, Int.reduceSub, Int.reduceNeg, Int.reduceLT, Int.reduceLE, Int.reduceEq, Int.reduceToNat, Nat.reduceMod]
    simp [marP, he, encW, encI]
end Go.Proofs.Ytopiamdfnaejeaa
