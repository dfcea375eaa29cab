/- The program's check of formulas and people: whom it gathers. No conditions. -/
import Derived.Test.YtopiamdfnaejeaaRefF
import Derived.Test.YtopiamdfnaejeaaSortB
set_option linter.unusedSimpArgs false
set_option linter.unusedVariables false
namespace Go.Proofs.Ytopiamdfnaejeaa
open Go Go.Proofs Go.Abs

/-- A set of people as a map's entries. -/
def entsB : Nat → List Int → List (Nat × AV × AV)
  | _, [] => []
  | i, n :: r => (i, .int .i64 n, .bool true) :: entsB (i + 1) r
theorem entsB_app (l r : List Int) (i : Nat) : entsB i (l ++ r) = entsB i l ++ entsB (i + l.length) r := by
  induction l generalizing i with
  | nil => simp [entsB]
  | cons a l ih => simp [entsB, ih, Nat.add_assoc, Nat.add_comm 1]
theorem entsB_find (p : Int) (l : List Int) (i : Nat) : (p ∈ l ∧ ∃ j e, aFind (.int .i64 p) (entsB i l) = some (some j) ∧ (entsB i l)[j]? = some e ∧ e.2 = (.int .i64 p, .bool true)) ∨ (p ∉ l ∧ aFind (.int .i64 p) (entsB i l) = some none) := by
  induction l generalizing i with
  | nil => exact .inr ⟨by simp, rfl⟩
  | cons a r ih =>
    by_cases ha : p = a
    · subst ha
      exact .inl ⟨by simp, 0, _, by simp [entsB, aFind], rfl, rfl⟩
    · rcases ih (i + 1) with ⟨h1, j, e, h2, h3, h4⟩ | ⟨h1, h2⟩
      · exact .inl ⟨by simp [h1], j + 1, e, by simp [entsB, aFind, ha, h2], by simpa [entsB] using h3, h4⟩
      · exact .inr ⟨by simp [ha, h1], by simp [entsB, aFind, ha, h2]⟩
def addK (n : Int) (ks : List Int) : List Int := if n ∈ ks then ks else ks ++ [n]
theorem put_ents (n : Int) (ks : List Int) : (aFind (.int .i64 n) (entsB 0 ks)).bind (putEnt (entsB 0 ks) ks.length (.int .i64 n) (.bool true)) = some (.map (entsB 0 (addK n ks)) (addK n ks).length) := by
  rcases entsB_find n ks 0 with ⟨h1, j, e, h2, h3, h4⟩ | ⟨h1, h2⟩
  · rw [h2, addK, if_pos h1]
    obtain ⟨e1, e2⟩ := e
    simp only at h4
    subst h4
    simp only [Option.bind_some, putEnt, h3, Option.map_some]
    congr 2
    apply List.ext_getElem?
    intro k
    rw [List.getElem?_set]
    split
    · rename_i hk; subst hk
      rw [if_pos (List.getElem?_eq_some_iff.1 h3).1, h3]
    · rfl
  · rw [h2, addK, if_neg h1]
    simp [putEnt, entsB_app, entsB]
mutual
def keysF : List Int → Gt → List Int
  | ks, .mk p _ l => keysL (if 0 ≤ p then addK p ks else ks) l
def keysL : List Int → List Gt → List Int
  | ks, [] => ks
  | ks, x :: r => keysL (keysF ks x) r
end
theorem keysL_app : ∀ (a b : List Gt) (ks : List Int), keysL ks (a ++ b) = keysL (keysL ks a) b
  | [], _, _ => rfl
  | x :: a, b, ks => by simp only [List.cons_append, keysL]; exact keysL_app a b _
def mapO (ks : List Int) : AObj := .map (entsB 0 ks) ks.length
theorem rb_mapO (n : Nat) (ks : List Int) : RBobj n (mapO ks) := by
  have : ∀ (ks : List Int) (i j : Nat) (e : Nat × AV × AV), (entsB i ks)[j]? = some e → RB n e.2.1 ∧ RB n e.2.2 := fun ks => by
    induction ks with
    | nil => intro i j e he; simp [entsB] at he
    | cons a r ih =>
      intro i j e he
      cases j with
      | zero => simp [entsB] at he; subst he; exact ⟨.int _ _, .bool _⟩
      | succ j => exact ih (i + 1) j e (by simpa [entsB] using he)
  exact this ks 0
theorem kept_map (h : AH) (M : Nat) (ks : List Int) : LoopKept h (h.set M (mapO ks)) := LoopKept.set (rb_mapO _ ks) (fun _ _ _ e => by cases e)
def wlkV (i j : Nat) : AV := .func 74 [] [.ptr (some (i, 0)), .ptr (some (j, 0))]
set_option maxRecDepth 100000 in
theorem wlk_calls_k (Γ : Nat → Option (List AV)) : ∀ (k : Nat) (g : Gt) (ks : List Int) (h : AH) (i j M : Nat), SizeOf.sizeOf g < k → Sh g → h[i]? = some (.row [.map (some M)] 90) → h[j]? = some (.row [wlkV i j] 91) → h[M]? = some (mapO ks) →
    ACalls Try.prog Γ 74 [encG g, .ptr (some (i, 0)), .ptr (some (j, 0))] h fun v h' => h' = h.set M (mapO (keysF ks g)) ∧ v = .tuple []
  | 0, _, _, _, _, _, _, hk, _, _, _, _ => absurd hk (Nat.not_lt_zero _)
  | k + 1, .mk p n l, ks, h, i, j, M, hsz, hs, hi, hj, hM => by
    have hi' := hget_of hi
    have hj' := hget_of hj
    have hM' := hget_of hM
    have hiM : i ≠ M := fun e => by subst e; rw [hi] at hM; cases hM
    have hjM : j ≠ M := fun e => by subst e; rw [hj] at hM; cases hM
    refine ACalls.dropAs (kept_map _ _ _) ?_
    refine acalls_code (rs := []) Try.func74 rfl rfl rfl rfl Ty.mixed (by kernel_rfl) ?_
    simp only [encG_mk]
    simp (disch := omega) only [go_sem, bne_self_eq_false, beq_self_eq_true, true_and, and_true, decide_true, decide_false, wrap_i64, ↓reduceIte, Nat.reduceAdd, Nat.reduceSub, Nat.reduceMul, Nat.reduceEqDiff, Nat.reduceLeDiff, Int.reduceAdd, Int.reduceSub, Int.reduceNeg, Int.reduceLT, Int.reduceLE, Int.reduceEq, Int.reduceToNat, Nat.reduceMod]
    have hl1 := hs.len
    have hl2 := hs.mem
    have hput := put_ents p ks
    have S0 : ∀ (o : AObj) (R : AH), (h.set M o ++ R)[h.length]? = R[0]? := fun o R => by
      have := hget_zero (h.set M o) R
      rwa [List.length_set] at this
    have Sk : ∀ (o : AObj) (R : AH) (q : Nat), (h.set M o ++ R)[h.length + q]? = R[q]? := fun o R q => by
      have := hget_add (h.set M o) R q
      rwa [List.length_set] at this
    have Si : ∀ (o : AObj) (R : AH), (h.set M o ++ R)[i]? = some (.row [.map (some M)] 90) := fun o R => by rw [hget_in _ (by simpa using hi'), List.getElem?_set_ne (fun e => hiM e.symm)]; exact hi
    have Sj : ∀ (o : AObj) (R : AH), (h.set M o ++ R)[j]? = some (.row [wlkV i j] 91) := fun o R => by rw [hget_in _ (by simpa using hj'), List.getElem?_set_ne (fun e => hjM e.symm)]; exact hj
    have SM : ∀ (o : AObj) (R : AH), (h.set M o ++ R)[M]? = some o := fun o R => by rw [hget_in _ (by simpa using hM'), List.getElem?_set_self hM']
    have SS : ∀ (o o' : AObj) (R : AH), (h.set M o ++ R).set M o' = h.set M o' ++ R := fun o o' R => by rw [List.set_append_left _ _ (by simpa using hM'), List.set_set]
    refine aIf.intro (fun h1 => ?_) (fun h1 => ?_) <;> simp (disch := omega) only [go_sem, bne_self_eq_false, beq_self_eq_true, true_and, and_true, decide_true, decide_false, wrap_i64, ↓reduceIte, Nat.reduceAdd, Nat.reduceSub, Nat.reduceMul, Nat.reduceEqDiff, Nat.reduceLeDiff, Int.reduceAdd, Int.reduceSub, Int.reduceNeg, Int.reduceLT, Int.reduceLE, Int.reduceEq, Int.reduceToNat, Nat.reduceMod]
    · simp (disch := omega) only [go_sem, bne_self_eq_false, beq_self_eq_true, true_and, and_true, decide_true, decide_false, wrap_i64, ↓reduceIte, Nat.reduceAdd, Nat.reduceSub, Nat.reduceMul, Nat.reduceEqDiff, Nat.reduceLeDiff, Int.reduceAdd, Int.reduceSub, Int.reduceNeg, Int.reduceLT, Int.reduceLE, Int.reduceEq, Int.reduceToNat, Nat.reduceMod, hget_in _ hi', hi, hget_in _ hM', hM, mapO, hput]
      rw [hset_left _ _ hM']
      obtain ⟨ks1, hk1⟩ : ∃ ks1, ks1 = addK p ks := ⟨_, rfl⟩
      have hkf : keysF ks (.mk p n l) = keysL ks1 l := by rw [keysF, if_pos h1, hk1]
      rw [← hk1, hkf]
      simp (disch := omega) only [go_sem, bne_self_eq_false, beq_self_eq_true, true_and, and_true, decide_true, decide_false, wrap_i64, ↓reduceIte, Nat.reduceAdd, Nat.reduceSub, Nat.reduceMul, Nat.reduceEqDiff, Nat.reduceLeDiff, Int.reduceAdd, Int.reduceSub, Int.reduceNeg, Int.reduceLT, Int.reduceLE, Int.reduceEq, Int.reduceToNat, Nat.reduceMod, S0]
      refine awp_loopL (β := List AObj) l [1, 2, 13, 14, 15] (fun don _ => [(1, .ptr (some (i, 0))), (2, .ptr (some (j, 0))), (13, .sl (l.map encG) .free), (14, .int .i64 l.length), (15, .int .i64 don.length)])
        (fun jj => h.set M (mapO (keysL ks1 (l.take jj.length))) ++ .row [.int .i64 p, .int .i64 n, .sl (l.map encG) .free] 24 :: jj) (fun don _ jj => jj.length = don.length) [] ?_ ?_ rfl Ty.mixed (by kernel_rfl) ?_ ?_
      · simp (disch := omega) only [go_sem, bne_self_eq_false, beq_self_eq_true, true_and, and_true, decide_true, decide_false, wrap_i64, ↓reduceIte, Nat.reduceAdd, Nat.reduceSub, Nat.reduceMul, Nat.reduceEqDiff, Nat.reduceLeDiff, Int.reduceAdd, Int.reduceSub, Int.reduceNeg, Int.reduceLT, Int.reduceLE, Int.reduceEq, Int.reduceToNat, Nat.reduceMod]
      · simp [keysL, mapO]
      · rintro don x r jj rfl hjj
        have hl3 := len_mid hl1
        rw [show (don ++ x :: r).take jj.length = don from by simp [hjj]]
        simp (disch := omega) only [go_sem, bne_self_eq_false, beq_self_eq_true, true_and, and_true, decide_true, decide_false, wrap_i64, ↓reduceIte, Nat.reduceAdd, Nat.reduceSub, Nat.reduceMul, Nat.reduceEqDiff, Nat.reduceLeDiff, Int.reduceAdd, Int.reduceSub, Int.reduceNeg, Int.reduceLT, Int.reduceLE, Int.reduceEq, Int.reduceToNat, Nat.reduceMod, List.map_append, List.map_cons, List.length_append]
        refine aIf.pos (by omega) ?_
        have e1 : ∀ (o a : AObj) (R : AH), (h.set M o ++ a :: (jj ++ R))[h.length + (jj.length + 1)]? = R[0]? := fun o a R => by rw [Sk, List.getElem?_cons_succ]; exact hget_zero jj R
        have e2 : ∀ (o a o' : AObj) (R : AH), (h.set M o ++ a :: (jj ++ R)).set (h.length + (jj.length + 1)) o' = h.set M o ++ a :: (jj ++ R.set 0 o') := fun o a o' R => by
          have h1 := hset_add (h.set M o) (a :: (jj ++ R)) (jj.length + 1) o'
          rw [List.length_set] at h1
          rw [h1, List.set_cons_succ]
          have h2 := hset_add jj R 0 o'
          rw [Nat.add_zero] at h2
          rw [h2]
        simp (disch := omega) only [go_sem, bne_self_eq_false, beq_self_eq_true, true_and, and_true, decide_true, decide_false, wrap_i64, ↓reduceIte, Nat.reduceAdd, Nat.reduceSub, Nat.reduceMul, Nat.reduceEqDiff, Nat.reduceLeDiff, Int.reduceAdd, Int.reduceSub, Int.reduceNeg, Int.reduceLT, Int.reduceLE, Int.reduceEq, Int.reduceToNat, Nat.reduceMod, List.map_append, List.map_cons, List.length_append, List.length_set, Sj, wlkV, e1, e2]
        refine ACalls.detH (wlk_calls_k Γ k x (keysL ks1 don) _ i j M (mem_sz (by simp) hsz) (hl2 x (by simp)) (Si _ _) (Sj _ _) (SM _ _)) ?_
        rw [SS]
        simp (disch := omega) only [go_sem, bne_self_eq_false, beq_self_eq_true, true_and, and_true, decide_true, decide_false, wrap_i64, ↓reduceIte, Nat.reduceAdd, Nat.reduceSub, Nat.reduceMul, Nat.reduceEqDiff, Nat.reduceLeDiff, Int.reduceAdd, Int.reduceSub, Int.reduceNeg, Int.reduceLT, Int.reduceLE, Int.reduceEq, Int.reduceToNat, Nat.reduceMod]
        refine roundL_next (jj ++ [.row (encG x).cells 24]) (by simp [hjj]) ?_ ?_
        · simp (disch := omega) only [go_sem, bne_self_eq_false, beq_self_eq_true, true_and, and_true, decide_true, decide_false, wrap_i64, ↓reduceIte, Nat.reduceAdd, Nat.reduceSub, Nat.reduceMul, Nat.reduceEqDiff, Nat.reduceLeDiff, Int.reduceAdd, Int.reduceSub, Int.reduceNeg, Int.reduceLT, Int.reduceLE, Int.reduceEq, Int.reduceToNat, Nat.reduceMod, List.length_append, List.map_append, List.map_cons]
        · rw [show (don ++ x :: r).take (jj ++ [AObj.row (encG x).cells 24]).length = don ++ [x] from by simp [hjj, List.take_append, List.take_of_length_le], keysL_app]
          simp [keysL]
      · intro jj hjj
        simp (disch := omega) only [go_sem, bne_self_eq_false, beq_self_eq_true, true_and, and_true, decide_true, decide_false, wrap_i64, ↓reduceIte, Nat.reduceAdd, Nat.reduceSub, Nat.reduceMul, Nat.reduceEqDiff, Nat.reduceLeDiff, Int.reduceAdd, Int.reduceSub, Int.reduceNeg, Int.reduceLT, Int.reduceLE, Int.reduceEq, Int.reduceToNat, Nat.reduceMod, List.length_map]
        exact ⟨.row [.int .i64 p, .int .i64 n, .sl (l.map encG) .free] 24 :: jj, by rw [hjj, List.take_length]; rfl⟩
    · obtain ⟨ks1, hk1⟩ : ∃ ks1, ks1 = ks := ⟨_, rfl⟩
      have hkf : keysF ks (.mk p n l) = keysL ks1 l := by rw [keysF, if_neg h1, hk1]
      rw [hkf]
      rw [show h ++ [AObj.row [.int .i64 p, .int .i64 n, .sl (l.map encG) .free] 24] = h.set M (mapO ks1) ++ [.row [.int .i64 p, .int .i64 n, .sl (l.map encG) .free] 24] from by rw [hk1, hset_same hM]]
      refine awp_loopL (β := List AObj) l [1, 2, 13, 14, 15] (fun don _ => [(1, .ptr (some (i, 0))), (2, .ptr (some (j, 0))), (13, .sl (l.map encG) .free), (14, .int .i64 l.length), (15, .int .i64 don.length)])
        (fun jj => h.set M (mapO (keysL ks1 (l.take jj.length))) ++ .row [.int .i64 p, .int .i64 n, .sl (l.map encG) .free] 24 :: jj) (fun don _ jj => jj.length = don.length) [] ?_ ?_ rfl Ty.mixed (by kernel_rfl) ?_ ?_
      · simp (disch := omega) only [go_sem, bne_self_eq_false, beq_self_eq_true, true_and, and_true, decide_true, decide_false, wrap_i64, ↓reduceIte, Nat.reduceAdd, Nat.reduceSub, Nat.reduceMul, Nat.reduceEqDiff, Nat.reduceLeDiff, Int.reduceAdd, Int.reduceSub, Int.reduceNeg, Int.reduceLT, Int.reduceLE, Int.reduceEq, Int.reduceToNat, Nat.reduceMod]
      · simp [keysL, mapO]
      · rintro don x r jj rfl hjj
        have hl3 := len_mid hl1
        rw [show (don ++ x :: r).take jj.length = don from by simp [hjj]]
        simp (disch := omega) only [go_sem, bne_self_eq_false, beq_self_eq_true, true_and, and_true, decide_true, decide_false, wrap_i64, ↓reduceIte, Nat.reduceAdd, Nat.reduceSub, Nat.reduceMul, Nat.reduceEqDiff, Nat.reduceLeDiff, Int.reduceAdd, Int.reduceSub, Int.reduceNeg, Int.reduceLT, Int.reduceLE, Int.reduceEq, Int.reduceToNat, Nat.reduceMod, List.map_append, List.map_cons, List.length_append]
        refine aIf.pos (by omega) ?_
        have e1 : ∀ (o a : AObj) (R : AH), (h.set M o ++ a :: (jj ++ R))[h.length + (jj.length + 1)]? = R[0]? := fun o a R => by rw [Sk, List.getElem?_cons_succ]; exact hget_zero jj R
        have e2 : ∀ (o a o' : AObj) (R : AH), (h.set M o ++ a :: (jj ++ R)).set (h.length + (jj.length + 1)) o' = h.set M o ++ a :: (jj ++ R.set 0 o') := fun o a o' R => by
          have h1 := hset_add (h.set M o) (a :: (jj ++ R)) (jj.length + 1) o'
          rw [List.length_set] at h1
          rw [h1, List.set_cons_succ]
          have h2 := hset_add jj R 0 o'
          rw [Nat.add_zero] at h2
          rw [h2]
        simp (disch := omega) only [go_sem, bne_self_eq_false, beq_self_eq_true, true_and, and_true, decide_true, decide_false, wrap_i64, ↓reduceIte, Nat.reduceAdd, Nat.reduceSub, Nat.reduceMul, Nat.reduceEqDiff, Nat.reduceLeDiff, Int.reduceAdd, Int.reduceSub, Int.reduceNeg, Int.reduceLT, Int.reduceLE, Int.reduceEq, Int.reduceToNat, Nat.reduceMod, List.map_append, List.map_cons, List.length_append, List.length_set, Sj, wlkV, e1, e2]
        refine ACalls.detH (wlk_calls_k Γ k x (keysL ks1 don) _ i j M (mem_sz (by simp) hsz) (hl2 x (by simp)) (Si _ _) (Sj _ _) (SM _ _)) ?_
        rw [SS]
        simp (disch := omega) only [go_sem, bne_self_eq_false, beq_self_eq_true, true_and, and_true, decide_true, decide_false, wrap_i64, ↓reduceIte, Nat.reduceAdd, Nat.reduceSub, Nat.reduceMul, Nat.reduceEqDiff, Nat.reduceLeDiff, Int.reduceAdd, Int.reduceSub, Int.reduceNeg, Int.reduceLT, Int.reduceLE, Int.reduceEq, Int.reduceToNat, Nat.reduceMod]
        refine roundL_next (jj ++ [.row (encG x).cells 24]) (by simp [hjj]) ?_ ?_
        · simp (disch := omega) only [go_sem, bne_self_eq_false, beq_self_eq_true, true_and, and_true, decide_true, decide_false, wrap_i64, ↓reduceIte, Nat.reduceAdd, Nat.reduceSub, Nat.reduceMul, Nat.reduceEqDiff, Nat.reduceLeDiff, Int.reduceAdd, Int.reduceSub, Int.reduceNeg, Int.reduceLT, Int.reduceLE, Int.reduceEq, Int.reduceToNat, Nat.reduceMod, List.length_append, List.map_append, List.map_cons]
        · rw [show (don ++ x :: r).take (jj ++ [AObj.row (encG x).cells 24]).length = don ++ [x] from by simp [hjj, List.take_append, List.take_of_length_le], keysL_app]
          simp [keysL]
      · intro jj hjj
        simp (disch := omega) only [go_sem, bne_self_eq_false, beq_self_eq_true, true_and, and_true, decide_true, decide_false, wrap_i64, ↓reduceIte, Nat.reduceAdd, Nat.reduceSub, Nat.reduceMul, Nat.reduceEqDiff, Nat.reduceLeDiff, Int.reduceAdd, Int.reduceSub, Int.reduceNeg, Int.reduceLT, Int.reduceLE, Int.reduceEq, Int.reduceToNat, Nat.reduceMod, List.length_map]
        exact ⟨.row [.int .i64 p, .int .i64 n, .sl (l.map encG) .free] 24 :: jj, by rw [hjj, List.take_length]⟩
theorem wlk_calls (Γ : Nat → Option (List AV)) (g : Gt) (ks : List Int) (h : AH) (i j M : Nat) (hs : Sh g) (hi : h[i]? = some (.row [.map (some M)] 90)) (hj : h[j]? = some (.row [wlkV i j] 91)) (hM : h[M]? = some (mapO ks)) :
    ACalls Try.prog Γ 74 [encG g, .ptr (some (i, 0)), .ptr (some (j, 0))] h fun v h' => h' = h.set M (mapO (keysF ks g)) ∧ v = .tuple [] :=
  wlk_calls_k Γ _ g ks h i j M (Nat.lt_succ_self _) hs hi hj hM
end Go.Proofs.Ytopiamdfnaejeaa
