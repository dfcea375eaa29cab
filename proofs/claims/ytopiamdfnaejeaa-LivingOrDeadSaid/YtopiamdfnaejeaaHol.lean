/- Holds, of formulas and people. No conditions. -/
import Derived.Test.YtopiamdfnaejeaaFormB
import Derived.Test.YtopiamdfnaejeaaSortA
set_option linter.unusedSimpArgs false
set_option linter.unusedVariables false
namespace Go.Proofs.Ytopiamdfnaejeaa
open Go Go.Proofs Go.Abs

theorem loose_G : ∀ g : Gt, loose (encG g) = encG g
  | .mk p n l => by
    have : looseL (l.map encG) = l.map encG := by
      rw [looseL_map, List.map_map]
      exact List.map_congr_left fun x hx => loose_G x
    rw [encG_mk]; simp only [loose, looseL, this]
theorem loose_Gs (l : List Gt) : looseL (l.map encG) = l.map encG := looseL_maps _ loose_G l
theorem rb_G (k : Nat) : ∀ g : Gt, RB k (encG g)
  | .mk p n l => by
    rw [encG_mk]
    refine .agg' (RBs.cons (.int _ _) (RBs.cons (.int _ _) (RBs.cons (.sl' fun r hr => ?_) (RBs.nil _))))
    obtain ⟨x, hx, rfl⟩ := List.mem_map.1 hr
    exact rb_G k x
theorem rb_Gs (k : Nat) (l : List Gt) : RB k (.sl (l.map encG) .free) = True := eq_true (.sl' fun r hr => by
  obtain ⟨x, hx, rfl⟩ := List.mem_map.1 hr
  exact rb_G k x)
theorem rb_G' (k : Nat) (g : Gt) : RB k (encG g) = True := eq_true (rb_G k g)
attribute [go_sem] loose_G loose_Gs rb_Gs rb_G'

/-! ### Holds -/
def ascF : Int → List Int → Bool
  | _, [] => true
  | last, n :: r => decide (last < n) && decide (n < 64) && ascF n r
def lastOf : List Int → Int
  | [] => -1
  | l => l.getLastD (-1)
def holdsR (g : Gt) (who : List Int) : Bool × Int :=
  if checkF g = 0 then (if ascF (-1) who then (holdsF (fun p => decide (p ∈ who)) g, 0) else (false, 1)) else (false, checkF g)
def encR (r : Bool × Int) : AV := .tuple [.bool r.1, .int .i64 r.2]

theorem find_new (l : List Int) (i : Nat) (n : Int) (h : ∀ m ∈ l, m < n) : aFind (.int .i64 n) (entsFrom i l) = some none := by
  rcases find_ents n l i with ⟨h1, _⟩ | ⟨_, h2⟩
  · have := h n h1; omega
  · exact h2

theorem checkF_right {g : Gt} (h : checkF g = 0) : rightF g = true := by
  unfold checkF at h
  split at h
  · omega
  · split at h
    · assumption
    · omega

set_option maxRecDepth 100000 in
theorem Holds_calls (Γ : Nat → Option (List AV)) (g : Gt) (who : List Int) (h : AH) (hs : Sh g) (hw : who.length ≤ 9223372036854775807) :
    ACalls Try.prog Γ 23 [encG g, .sl (encI who) .free] h fun v h' => h' = h ∧ v = encR (holdsR g who) := by
  refine ACalls.drop ?_
  refine acalls_code (rs := [.tmp 4, .tmp 5]) Try.func23 rfl rfl rfl rfl Ty.mixed (by kernel_rfl) ?_
  simp (disch := omega) only [go_sem, bne_self_eq_false, beq_self_eq_true, true_and, and_true, decide_true, decide_false, wrap_i64, ↓reduceIte, Nat.reduceAdd, Nat.reduceSub, Nat.reduceMul, Nat.reduceEqDiff, Nat.reduceLeDiff, Int.reduceAdd, Int.reduceSub, Int.reduceNeg, Int.reduceLT, Int.reduceLE, Int.reduceEq, Int.reduceToNat, Nat.reduceMod]
  refine ACalls.det (check_calls Γ g _ hs) ?_
  simp (disch := omega) only [go_sem, bne_self_eq_false, beq_self_eq_true, true_and, and_true, decide_true, decide_false, wrap_i64, ↓reduceIte, Nat.reduceAdd, Nat.reduceSub, Nat.reduceMul, Nat.reduceEqDiff, Nat.reduceLeDiff, Int.reduceAdd, Int.reduceSub, Int.reduceNeg, Int.reduceLT, Int.reduceLE, Int.reduceEq, Int.reduceToNat, Nat.reduceMod]
  refine aIf.intro (fun h1 => ?_) (fun h1 => ?_) <;> simp (disch := omega) only [go_sem, bne_self_eq_false, beq_self_eq_true, true_and, and_true, decide_true, decide_false, wrap_i64, ↓reduceIte, Nat.reduceAdd, Nat.reduceSub, Nat.reduceMul, Nat.reduceEqDiff, Nat.reduceLeDiff, Int.reduceAdd, Int.reduceSub, Int.reduceNeg, Int.reduceLT, Int.reduceLE, Int.reduceEq, Int.reduceToNat, Nat.reduceMod]
  rotate_left
  · simp [holdsR, h1, encR]
  have hg := checkF_right h1
  refine awp_loopL (β := Int × List Int) who [19, 18, 17, 8, 7, 2] (fun don b => [(19, .int .i64 don.length), (18, .int .i64 who.length), (17, .sl (encI who) .free), (8, .int .i64 b.1), (7, .map (some (h.length + 1))), (2, .ptr (some (h.length, 0)))])
    (fun b => h ++ [.row (encG g).cells 24, .map (entsFrom 0 b.2) b.2.length]) (fun don rest b => b.2 = don ∧ (∀ m ∈ don, m ≤ b.1) ∧ ascF (-1) who = ascF b.1 rest) (-1, []) ?_ rfl ⟨rfl, by simp, rfl⟩ Ty.mixed (by kernel_rfl) ?_ ?_
  · simp (disch := omega) only [go_sem, bne_self_eq_false, beq_self_eq_true, true_and, and_true, decide_true, decide_false, wrap_i64, ↓reduceIte, Nat.reduceAdd, Nat.reduceSub, Nat.reduceMul, Nat.reduceEqDiff, Nat.reduceLeDiff, Int.reduceAdd, Int.reduceSub, Int.reduceNeg, Int.reduceLT, Int.reduceLE, Int.reduceEq, Int.reduceToNat, Nat.reduceMod, encI, List.length_map]
  · rintro don x r ⟨b, don⟩ rfl ⟨rfl, hb, hx⟩
    have hl3 := len_mid hw
    simp only at hb hx hl3 ⊢
    simp (disch := omega) only [go_sem, bne_self_eq_false, beq_self_eq_true, true_and, and_true, decide_true, decide_false, wrap_i64, ↓reduceIte, Nat.reduceAdd, Nat.reduceSub, Nat.reduceMul, Nat.reduceEqDiff, Nat.reduceLeDiff, Int.reduceAdd, Int.reduceSub, Int.reduceNeg, Int.reduceLT, Int.reduceLE, Int.reduceEq, Int.reduceToNat, Nat.reduceMod, encI, List.map_append, List.map_cons, List.length_append]
    refine aIf.pos (by omega) ?_
    simp (disch := omega) only [go_sem, bne_self_eq_false, beq_self_eq_true, true_and, and_true, decide_true, decide_false, wrap_i64, ↓reduceIte, Nat.reduceAdd, Nat.reduceSub, Nat.reduceMul, Nat.reduceEqDiff, Nat.reduceLeDiff, Int.reduceAdd, Int.reduceSub, Int.reduceNeg, Int.reduceLT, Int.reduceLE, Int.reduceEq, Int.reduceToNat, Nat.reduceMod]
    refine aIf.intro (fun h2 => ?_) (fun h2 => ?_) <;> simp (disch := omega) only [go_sem, bne_self_eq_false, beq_self_eq_true, true_and, and_true, decide_true, decide_false, wrap_i64, ↓reduceIte, Nat.reduceAdd, Nat.reduceSub, Nat.reduceMul, Nat.reduceEqDiff, Nat.reduceLeDiff, Int.reduceAdd, Int.reduceSub, Int.reduceNeg, Int.reduceLT, Int.reduceLE, Int.reduceEq, Int.reduceToNat, Nat.reduceMod]
    · simp [holdsR, h1, hx, ascF, encR, show ¬ b < x by omega]
    refine aIf.intro (fun h3 => ?_) (fun h3 => ?_) <;> simp (disch := omega) only [go_sem, bne_self_eq_false, beq_self_eq_true, true_and, and_true, decide_true, decide_false, wrap_i64, ↓reduceIte, Nat.reduceAdd, Nat.reduceSub, Nat.reduceMul, Nat.reduceEqDiff, Nat.reduceLeDiff, Int.reduceAdd, Int.reduceSub, Int.reduceNeg, Int.reduceLT, Int.reduceLE, Int.reduceEq, Int.reduceToNat, Nat.reduceMod]
    · simp [holdsR, h1, hx, ascF, encR, show ¬ x < 64 by omega]
    have hnew := find_new don 0 x (fun m hm => by have := hb m hm; omega)
    rw [hnew]
    simp (disch := omega) only [go_sem, bne_self_eq_false, beq_self_eq_true, true_and, and_true, decide_true, decide_false, wrap_i64, ↓reduceIte, Nat.reduceAdd, Nat.reduceSub, Nat.reduceMul, Nat.reduceEqDiff, Nat.reduceLeDiff, Int.reduceAdd, Int.reduceSub, Int.reduceNeg, Int.reduceLT, Int.reduceLE, Int.reduceEq, Int.reduceToNat, Nat.reduceMod, Option.bind_some, putEnt]
    refine roundL_next (x, don ++ [x]) ⟨rfl, fun m hm => ?_, ?_⟩ ?_ ?_
    · rcases List.mem_append.1 hm with hm | hm
      · have := hb m hm; simp only; omega
      · simp at hm; simp only; omega
    · rw [hx]; simp [ascF, show b < x by omega, show x < 64 by omega]
    · simp (disch := omega) only [go_sem, bne_self_eq_false, beq_self_eq_true, true_and, and_true, decide_true, decide_false, wrap_i64, ↓reduceIte, Nat.reduceAdd, Nat.reduceSub, Nat.reduceMul, Nat.reduceEqDiff, Nat.reduceLeDiff, Int.reduceAdd, Int.reduceSub, Int.reduceNeg, Int.reduceLT, Int.reduceLE, Int.reduceEq, Int.reduceToNat, Nat.reduceMod, List.length_append, encI, List.map_append, List.map_cons]
    · simp [entsFrom_app, entsFrom]
  · rintro ⟨b, w⟩ ⟨hw', hb, hx⟩
    simp only at hw' hx
    subst hw'
    simp (disch := omega) only [go_sem, bne_self_eq_false, beq_self_eq_true, true_and, and_true, decide_true, decide_false, wrap_i64, ↓reduceIte, Nat.reduceAdd, Nat.reduceSub, Nat.reduceMul, Nat.reduceEqDiff, Nat.reduceLeDiff, Int.reduceAdd, Int.reduceSub, Int.reduceNeg, Int.reduceLT, Int.reduceLE, Int.reduceEq, Int.reduceToNat, Nat.reduceMod, encI, List.length_map]
    refine AWP.keep [7, 2] (aCode_ok Ty.mixed _ _ _ _ (by kernel_rfl) ?_)
    simp (disch := omega) only [go_sem, bne_self_eq_false, beq_self_eq_true, true_and, and_true, decide_true, decide_false, wrap_i64, ↓reduceIte, Nat.reduceAdd, Nat.reduceSub, Nat.reduceMul, Nat.reduceEqDiff, Nat.reduceLeDiff, Int.reduceAdd, Int.reduceSub, Int.reduceNeg, Int.reduceLT, Int.reduceLE, Int.reduceEq, Int.reduceToNat, Nat.reduceMod]
    refine ACalls.det (holds_calls_k Γ w w.length _ g _ (h.length + 1) (Nat.lt_succ_self _) hs hg (by simp (disch := omega) only [go_sem, bne_self_eq_false, beq_self_eq_true, true_and, and_true, decide_true, decide_false, wrap_i64, ↓reduceIte, Nat.reduceAdd, Nat.reduceSub, Nat.reduceMul, Nat.reduceEqDiff, Nat.reduceLeDiff, Int.reduceAdd, Int.reduceSub, Int.reduceNeg, Int.reduceLT, Int.reduceLE, Int.reduceEq, Int.reduceToNat, Nat.reduceMod])) ?_
    simp (disch := omega) only [go_sem, bne_self_eq_false, beq_self_eq_true, true_and, and_true, decide_true, decide_false, wrap_i64, ↓reduceIte, Nat.reduceAdd, Nat.reduceSub, Nat.reduceMul, Nat.reduceEqDiff, Nat.reduceLeDiff, Int.reduceAdd, Int.reduceSub, Int.reduceNeg, Int.reduceLT, Int.reduceLE, Int.reduceEq, Int.reduceToNat, Nat.reduceMod]
    simp [holdsR, h1, hx, ascF, encR]

theorem loose_I (l : List Int) : looseL (encI l) = encI l := looseL_maps _ (fun _ => by rw [loose]) l
theorem rb_I (n : Nat) (l : List Int) : RB n (.sl (encI l) .free) = True := eq_true (.sl' fun r hr => by
  obtain ⟨i, _, rfl⟩ := List.mem_map.1 hr; exact .int _ _)
theorem rowsOK_I (l : List Int) : RowsOK 1 (encI l) := RowsOK.int l
attribute [go_sem] loose_I rb_I
end Go.Proofs.Ytopiamdfnaejeaa
