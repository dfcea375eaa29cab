/- The program's check of a gate and a list of people: the code. No conditions. -/
import Derived.Test.YtopiamdfnaejeaaLivB
set_option linter.unusedSimpArgs false
set_option linter.unusedVariables false
namespace Go.Proofs.Ytopiamdfnaejeaa
open Go Go.Proofs Go.Abs

def strA (p n : Int) (l : List Gt) (ppl : List Int) : AV := .agg [.int .i64 p, .int .i64 n, .sl (l.map encG) .free, .sl (encI ppl) .free]
def lerrF (g : Gt) (al : List Int) : Int := if checkF g = 0 then (if 12 < (keysF [] g).length then 2 else if ascF (-1) al then 0 else 1) else checkF g
def lstrF : Gt → List Int → AV
  | .mk p n l, al => if lerrF (.mk p n l) al = 0 then strA p n l (sortI (keysF [] (.mk p n l))) else strA 0 0 [] []
/-! ### Sorting nothing -/
set_option maxRecDepth 100000 in
theorem isort0_calls (Γ : Nat → Option (List AV)) (o : Abs.Own) (h : AH) :
    ACalls Try.prog Γ 119 [.sl [] o, .int .i64 0, .int .i64 0] h fun v h' => h' = h := by
  refine acalls_code (rs := []) Try.func119 rfl rfl rfl rfl Ty.mixed (by kernel_rfl) ?_
  simp (disch := omega) only [go_sem, bne_self_eq_false, beq_self_eq_true, true_and, and_true, decide_true, decide_false, wrap_i64, ↓reduceIte, Nat.reduceAdd, Nat.reduceSub, Nat.reduceMul, Nat.reduceEqDiff, Nat.reduceLeDiff, Int.reduceAdd, Int.reduceSub, Int.reduceNeg, Int.reduceLT, Int.reduceLE, Int.reduceEq, Int.reduceToNat, Nat.reduceMod]
  refine awp_loopS (α := Unit) [2, 6] (fun s => [(2, .int .i64 0), (6, .int .i64 1)]) (fun s => h) (fun s => True) (fun _ => 0) () ?_ rfl trivial Ty.mixed (by kernel_rfl) ?_
  · simp (disch := omega) only [go_sem, bne_self_eq_false, beq_self_eq_true, true_and, and_true, decide_true, decide_false, wrap_i64, ↓reduceIte, Nat.reduceAdd, Nat.reduceSub, Nat.reduceMul, Nat.reduceEqDiff, Nat.reduceLeDiff, Int.reduceAdd, Int.reduceSub, Int.reduceNeg, Int.reduceLT, Int.reduceLE, Int.reduceEq, Int.reduceToNat, Nat.reduceMod]
  rintro _ _
  simp (disch := omega) only [go_sem, bne_self_eq_false, beq_self_eq_true, true_and, and_true, decide_true, decide_false, wrap_i64, ↓reduceIte, Nat.reduceAdd, Nat.reduceSub, Nat.reduceMul, Nat.reduceEqDiff, Nat.reduceLeDiff, Int.reduceAdd, Int.reduceSub, Int.reduceNeg, Int.reduceLT, Int.reduceLE, Int.reduceEq, Int.reduceToNat, Nat.reduceMod]
  first | (refine AWP.keep [] (aCode_ok Ty.mixed _ _ _ _ (by kernel_rfl) ?_); simp (disch := omega) only [go_sem, bne_self_eq_false, beq_self_eq_true, true_and, and_true, decide_true, decide_false, wrap_i64, ↓reduceIte, Nat.reduceAdd, Nat.reduceSub, Nat.reduceMul, Nat.reduceEqDiff, Nat.reduceLeDiff, Int.reduceAdd, Int.reduceSub, Int.reduceNeg, Int.reduceLT, Int.reduceLE, Int.reduceEq, Int.reduceToNat, Nat.reduceMod]) | skip
set_option maxRecDepth 100000 in
theorem pdq0_calls (Γ : Nat → Option (List AV)) (o : Abs.Own) (m : Int) (h : AH) :
    ACalls Try.prog Γ 101 [.sl [] o, .int .i64 0, .int .i64 0, .int .i64 m] h fun v h' => h' = h := by
  refine acalls_code (rs := []) Try.func101 rfl rfl rfl rfl Ty.mixed (by kernel_rfl) ?_
  simp (disch := omega) only [go_sem, bne_self_eq_false, beq_self_eq_true, true_and, and_true, decide_true, decide_false, wrap_i64, ↓reduceIte, Nat.reduceAdd, Nat.reduceSub, Nat.reduceMul, Nat.reduceEqDiff, Nat.reduceLeDiff, Int.reduceAdd, Int.reduceSub, Int.reduceNeg, Int.reduceLT, Int.reduceLE, Int.reduceEq, Int.reduceToNat, Nat.reduceMod]
  refine awp_loopS (α := Unit) [0, 1, 2, 3, 8, 9] (fun _ => [(0, .sl [] o), (1, .int .i64 0), (2, .int .i64 0), (3, .int .i64 m), (8, .bool true), (9, .bool true)])
    (fun _ => h) (fun _ => True) (fun _ => 0) () ?_ rfl trivial Ty.mixed (by kernel_rfl) ?_
  · simp (disch := omega) only [go_sem, bne_self_eq_false, beq_self_eq_true, true_and, and_true, decide_true, decide_false, wrap_i64, ↓reduceIte, Nat.reduceAdd, Nat.reduceSub, Nat.reduceMul, Nat.reduceEqDiff, Nat.reduceLeDiff, Int.reduceAdd, Int.reduceSub, Int.reduceNeg, Int.reduceLT, Int.reduceLE, Int.reduceEq, Int.reduceToNat, Nat.reduceMod]
  rintro _ _
  simp (disch := omega) only [go_sem, bne_self_eq_false, beq_self_eq_true, true_and, and_true, decide_true, decide_false, wrap_i64, ↓reduceIte, Nat.reduceAdd, Nat.reduceSub, Nat.reduceMul, Nat.reduceEqDiff, Nat.reduceLeDiff, Int.reduceAdd, Int.reduceSub, Int.reduceNeg, Int.reduceLT, Int.reduceLE, Int.reduceEq, Int.reduceToNat, Nat.reduceMod]
  refine ACalls.then (isort0_calls Γ o _) ?_
  rintro _ _ rfl
  simp (disch := omega) only [go_sem, bne_self_eq_false, beq_self_eq_true, true_and, and_true, decide_true, decide_false, wrap_i64, ↓reduceIte, Nat.reduceAdd, Nat.reduceSub, Nat.reduceMul, Nat.reduceEqDiff, Nat.reduceLeDiff, Int.reduceAdd, Int.reduceSub, Int.reduceNeg, Int.reduceLT, Int.reduceLE, Int.reduceEq, Int.reduceToNat, Nat.reduceMod]
set_option maxRecDepth 100000 in
theorem sort0_calls (Γ : Nat → Option (List AV)) (o : Abs.Own) (h : AH) :
    ACalls Try.prog Γ 75 [.sl [] o] h fun v h' => h' = h := by
  refine acalls_code (rs := []) Try.func75 rfl rfl rfl rfl Ty.mixed (by kernel_rfl) ?_
  simp (disch := omega) only [go_sem, bne_self_eq_false, beq_self_eq_true, true_and, and_true, decide_true, decide_false, wrap_i64, ↓reduceIte, Nat.reduceAdd, Nat.reduceSub, Nat.reduceMul, Nat.reduceEqDiff, Nat.reduceLeDiff, Int.reduceAdd, Int.reduceSub, Int.reduceNeg, Int.reduceLT, Int.reduceLE, Int.reduceEq, Int.reduceToNat, Nat.reduceMod]
  rw [IntWalk.u64_in _ ⟨by omega, by omega⟩]
  refine ACalls.then (len_calls Γ _ _ (by omega) (by omega)) ?_
  rintro _ _ ⟨rfl, m, rfl⟩
  simp (disch := omega) only [go_sem, bne_self_eq_false, beq_self_eq_true, true_and, and_true, decide_true, decide_false, wrap_i64, ↓reduceIte, Nat.reduceAdd, Nat.reduceSub, Nat.reduceMul, Nat.reduceEqDiff, Nat.reduceLeDiff, Int.reduceAdd, Int.reduceSub, Int.reduceNeg, Int.reduceLT, Int.reduceLE, Int.reduceEq, Int.reduceToNat, Nat.reduceMod]
  refine ACalls.then (pdq0_calls Γ o m _) ?_
  rintro _ _ rfl
  simp (disch := omega) only [go_sem, bne_self_eq_false, beq_self_eq_true, true_and, and_true, decide_true, decide_false, wrap_i64, ↓reduceIte, Nat.reduceAdd, Nat.reduceSub, Nat.reduceMul, Nat.reduceEqDiff, Nat.reduceLeDiff, Int.reduceAdd, Int.reduceSub, Int.reduceNeg, Int.reduceLT, Int.reduceLE, Int.reduceEq, Int.reduceToNat, Nat.reduceMod]
structure CkS where
  seen : List Nat
  v : AV
  j : AH
set_option maxRecDepth 100000 in
theorem lcheck_calls (Γ : Nat → Option (List AV)) (g : Gt) (al : List Int) (h : AH) (hs : Sh g) (hal : al.length ≤ 9223372036854775807) :
    ACalls Try.prog Γ 46 [encG g, .sl (encI al) .free] h fun v h' => h' = h ∧ v = .tuple [lstrF g al, .int .i64 (lerrF g al)] := by
  cases g with | mk p n l =>
  refine ACalls.endM ?_
  refine acalls_code (rs := [.cell 4 62, .tmp 5]) Try.func46 rfl rfl rfl rfl Ty.mixed (by kernel_rfl) ?_
  simp only [encG_mk]
  simp (disch := omega) only [go_sem, bne_self_eq_false, beq_self_eq_true, true_and, and_true, decide_true, decide_false, wrap_i64, ↓reduceIte, Nat.reduceAdd, Nat.reduceSub, Nat.reduceMul, Nat.reduceEqDiff, Nat.reduceLeDiff, Int.reduceAdd, Int.reduceSub, Int.reduceNeg, Int.reduceLT, Int.reduceLE, Int.reduceEq, Int.reduceToNat, Nat.reduceMod]
  have hck := fun h => check_calls Γ (.mk p n l) h hs
  have hwk := fun ks h i j M => wlk_calls Γ (.mk p n l) ks h i j M hs
  simp only [encG_mk] at hck hwk
  refine ACalls.det (hck _) ?_
  simp (disch := omega) only [go_sem, bne_self_eq_false, beq_self_eq_true, true_and, and_true, decide_true, decide_false, wrap_i64, ↓reduceIte, Nat.reduceAdd, Nat.reduceSub, Nat.reduceMul, Nat.reduceEqDiff, Nat.reduceLeDiff, Int.reduceAdd, Int.reduceSub, Int.reduceNeg, Int.reduceLT, Int.reduceLE, Int.reduceEq, Int.reduceToNat, Nat.reduceMod]
  refine aIf.intro (fun h1 => ?_) (fun h1 => ?_) <;> simp (disch := omega) only [go_sem, bne_self_eq_false, beq_self_eq_true, true_and, and_true, decide_true, decide_false, wrap_i64, ↓reduceIte, Nat.reduceAdd, Nat.reduceSub, Nat.reduceMul, Nat.reduceEqDiff, Nat.reduceLeDiff, Int.reduceAdd, Int.reduceSub, Int.reduceNeg, Int.reduceLT, Int.reduceLE, Int.reduceEq, Int.reduceToNat, Nat.reduceMod]
  rotate_left
  · left
    simp [lstrF, lerrF, h1, strA, encI]
  refine ACalls.detH (hwk [] _ (h.length + 3) (h.length + 4) (h.length + 2) ?_ ?_ ?_) ?_
  · simp (disch := omega) only [go_sem, bne_self_eq_false, beq_self_eq_true, true_and, and_true, decide_true, decide_false, wrap_i64, ↓reduceIte, Nat.reduceAdd, Nat.reduceSub, Nat.reduceMul, Nat.reduceEqDiff, Nat.reduceLeDiff, Int.reduceAdd, Int.reduceSub, Int.reduceNeg, Int.reduceLT, Int.reduceLE, Int.reduceEq, Int.reduceToNat, Nat.reduceMod]
  · simp (disch := omega) only [go_sem, bne_self_eq_false, beq_self_eq_true, true_and, and_true, decide_true, decide_false, wrap_i64, ↓reduceIte, Nat.reduceAdd, Nat.reduceSub, Nat.reduceMul, Nat.reduceEqDiff, Nat.reduceLeDiff, Int.reduceAdd, Int.reduceSub, Int.reduceNeg, Int.reduceLT, Int.reduceLE, Int.reduceEq, Int.reduceToNat, Nat.reduceMod]
    rfl
  · simp (disch := omega) only [go_sem, bne_self_eq_false, beq_self_eq_true, true_and, and_true, decide_true, decide_false, wrap_i64, ↓reduceIte, Nat.reduceAdd, Nat.reduceSub, Nat.reduceMul, Nat.reduceEqDiff, Nat.reduceLeDiff, Int.reduceAdd, Int.reduceSub, Int.reduceNeg, Int.reduceLT, Int.reduceLE, Int.reduceEq, Int.reduceToNat, Nat.reduceMod]
    rfl
  obtain ⟨ks, hks⟩ : ∃ ks, ks = keysF [] (.mk p n l) := ⟨_, rfl⟩
  rw [← hks]
  simp (disch := omega) only [go_sem, bne_self_eq_false, beq_self_eq_true, true_and, and_true, decide_true, decide_false, wrap_i64, ↓reduceIte, Nat.reduceAdd, Nat.reduceSub, Nat.reduceMul, Nat.reduceEqDiff, Nat.reduceLeDiff, Int.reduceAdd, Int.reduceSub, Int.reduceNeg, Int.reduceLT, Int.reduceLE, Int.reduceEq, Int.reduceToNat, Nat.reduceMod, mapO, entsB_len]
  refine aIf.intro (fun h2 => ?_) (fun h2 => ?_) <;> simp (disch := omega) only [go_sem, bne_self_eq_false, beq_self_eq_true, true_and, and_true, decide_true, decide_false, wrap_i64, ↓reduceIte, Nat.reduceAdd, Nat.reduceSub, Nat.reduceMul, Nat.reduceEqDiff, Nat.reduceLeDiff, Int.reduceAdd, Int.reduceSub, Int.reduceNeg, Int.reduceLT, Int.reduceLE, Int.reduceEq, Int.reduceToNat, Nat.reduceMod]
  · left
    simp [lstrF, lerrF, h1, strA, encI, ← hks, show 12 < ks.length by omega]
  have hkl : ks.length ≤ 12 := by omega
  refine awp_loopL (β := Int) al [2, 4, 6, 8, 27, 28, 29] (fun don b => [(2, .ptr (some (h.length, 0))), (4, .ptr (some (h.length + 1, 0))), (6, .ptr (some (h.length + 3, 0))), (8, .int .i64 b), (27, .sl (encI al) .free), (28, .int .i64 al.length), (29, .int .i64 don.length)])
    (fun b => h ++ [.row [.int .i64 p, .int .i64 n, .sl (l.map encG) .free] 24, .row [.int .i64 0, .int .i64 0, .sl [] .full, .sl [] .full] 62, mapO ks, .row [.map (some (h.length + 2))] 90, .row [wlkV (h.length + 3) (h.length + 4)] 91])
    (fun don rest b => ascF (-1) al = ascF b rest) (-1) ?_ rfl rfl Ty.mixed (by kernel_rfl) ?_ ?_
  · simp (disch := omega) only [go_sem, bne_self_eq_false, beq_self_eq_true, true_and, and_true, decide_true, decide_false, wrap_i64, ↓reduceIte, Nat.reduceAdd, Nat.reduceSub, Nat.reduceMul, Nat.reduceEqDiff, Nat.reduceLeDiff, Int.reduceAdd, Int.reduceSub, Int.reduceNeg, Int.reduceLT, Int.reduceLE, Int.reduceEq, Int.reduceToNat, Nat.reduceMod, encI_len]
  · rintro don x r b rfl hx
    have hl3 := len_mid hal
    have e1 : (encI (don ++ x :: r))[don.length]? = some (.int .i64 x) := by simp [encI]
    simp (disch := omega) only [go_sem, bne_self_eq_false, beq_self_eq_true, true_and, and_true, decide_true, decide_false, wrap_i64, ↓reduceIte, Nat.reduceAdd, Nat.reduceSub, Nat.reduceMul, Nat.reduceEqDiff, Nat.reduceLeDiff, Int.reduceAdd, Int.reduceSub, Int.reduceNeg, Int.reduceLT, Int.reduceLE, Int.reduceEq, Int.reduceToNat, Nat.reduceMod, encI_len, List.length_append, List.length_cons]
    refine aIf.pos (by omega) ?_
    simp (disch := omega) only [go_sem, bne_self_eq_false, beq_self_eq_true, true_and, and_true, decide_true, decide_false, wrap_i64, ↓reduceIte, Nat.reduceAdd, Nat.reduceSub, Nat.reduceMul, Nat.reduceEqDiff, Nat.reduceLeDiff, Int.reduceAdd, Int.reduceSub, Int.reduceNeg, Int.reduceLT, Int.reduceLE, Int.reduceEq, Int.reduceToNat, Nat.reduceMod, encI_len, List.length_append, List.length_cons, e1]
    refine aIf.intro (fun h3 => ?_) (fun h3 => ?_) <;> simp (disch := omega) only [go_sem, bne_self_eq_false, beq_self_eq_true, true_and, and_true, decide_true, decide_false, wrap_i64, ↓reduceIte, Nat.reduceAdd, Nat.reduceSub, Nat.reduceMul, Nat.reduceEqDiff, Nat.reduceLeDiff, Int.reduceAdd, Int.reduceSub, Int.reduceNeg, Int.reduceLT, Int.reduceLE, Int.reduceEq, Int.reduceToNat, Nat.reduceMod]
    · left
      simp [lstrF, lerrF, h1, strA, encI, ← hks, show ¬ 12 < ks.length by omega, hx, ascF, show ¬ b < x by omega]
    refine aIf.intro (fun h4 => ?_) (fun h4 => ?_) <;> simp (disch := omega) only [go_sem, bne_self_eq_false, beq_self_eq_true, true_and, and_true, decide_true, decide_false, wrap_i64, ↓reduceIte, Nat.reduceAdd, Nat.reduceSub, Nat.reduceMul, Nat.reduceEqDiff, Nat.reduceLeDiff, Int.reduceAdd, Int.reduceSub, Int.reduceNeg, Int.reduceLT, Int.reduceLE, Int.reduceEq, Int.reduceToNat, Nat.reduceMod]
    · left
      simp [lstrF, lerrF, h1, strA, encI, ← hks, show ¬ 12 < ks.length by omega, hx, ascF, show ¬ x < 64 by omega]
    refine roundL_next x ?_ ?_ rfl
    · rw [hx]; simp [ascF, show b < x by omega, show x < 64 by omega]
    · simp (disch := omega) only [go_sem, bne_self_eq_false, beq_self_eq_true, true_and, and_true, decide_true, decide_false, wrap_i64, ↓reduceIte, Nat.reduceAdd, Nat.reduceSub, Nat.reduceMul, Nat.reduceEqDiff, Nat.reduceLeDiff, Int.reduceAdd, Int.reduceSub, Int.reduceNeg, Int.reduceLT, Int.reduceLE, Int.reduceEq, Int.reduceToNat, Nat.reduceMod, List.length_append]
  · intro b hb
    simp (disch := omega) only [go_sem, bne_self_eq_false, beq_self_eq_true, true_and, and_true, decide_true, decide_false, wrap_i64, ↓reduceIte, Nat.reduceAdd, Nat.reduceSub, Nat.reduceMul, Nat.reduceEqDiff, Nat.reduceLeDiff, Int.reduceAdd, Int.reduceSub, Int.reduceNeg, Int.reduceLT, Int.reduceLE, Int.reduceEq, Int.reduceToNat, Nat.reduceMod, encI_len]
    refine AWP.mark (by decide) ?_
    refine AWP.keep [2, 4, 6, 1000000] (aCode_ok Ty.mixed _ _ _ _ (by kernel_rfl) ?_)
    simp (disch := omega) only [go_sem, bne_self_eq_false, beq_self_eq_true, true_and, and_true, decide_true, decide_false, wrap_i64, ↓reduceIte, Nat.reduceAdd, Nat.reduceSub, Nat.reduceMul, Nat.reduceEqDiff, Nat.reduceLeDiff, Int.reduceAdd, Int.reduceSub, Int.reduceNeg, Int.reduceLT, Int.reduceLE, Int.reduceEq, Int.reduceToNat, Nat.reduceMod, mapO]
    obtain ⟨K, hK⟩ : ∃ K : AV → List Nat → AH, ∀ v s, K v s = h ++ [.row [.int .i64 p, .int .i64 n, .sl (l.map encG) .free] 24, .row [.int .i64 p, .int .i64 n, .sl (l.map encG) .free, v] 62,
        .map (entsB 0 ks) ks.length, .row [.map (some (h.length + 2))] 90, .row [wlkV (h.length + 3) (h.length + 4)] 91, .iter (some (h.length + 2)) ks.length s] := ⟨_, fun _ _ => rfl⟩
    have Kl : ∀ v s, (K v s).length = h.length + 6 := fun v s => by rw [hK]; simp
    have Ks : ∀ v s (R : AH), (K v s ++ R)[h.length + 1]? = some (.row [.int .i64 p, .int .i64 n, .sl (l.map encG) .free, v] 62) := fun v s R => by rw [hK]; simp
    have Kw : ∀ v s (R : AH) w, (K v s ++ R).set (h.length + 1) (.row [.int .i64 p, .int .i64 n, .sl (l.map encG) .free, w] 62) = K w s ++ R := fun v s R w => by rw [hK, hK]; simp [hset_add]
    have Km : ∀ v s (R : AH), (K v s ++ R)[h.length + 2]? = some (.map (entsB 0 ks) ks.length) := fun v s R => by rw [hK]; simp
    have Ki : ∀ v s (R : AH), (K v s ++ R)[h.length + 5]? = some (.iter (some (h.length + 2)) ks.length s) := fun v s R => by rw [hK]; simp
    have Kj : ∀ v s (R : AH) s', (K v s ++ R).set (h.length + 5) (.iter (some (h.length + 2)) ks.length s') = K v s' ++ R := fun v s R s' => by rw [hK, hK]; simp [hset_add]
    refine awp_loopS (α := CkS) [4, 46, 1000000] (fun s => [(4, .ptr (some (h.length + 1, 0))), (46, .ptr (some (h.length + 5, 0))), (1000000, .tuple [])]) (fun s => K s.v s.seen ++ s.j)
      (fun s => s.seen.Nodup ∧ (∀ b ∈ s.seen, b < ks.length) ∧ OwnM (h.length + 6) s.j 3 s.v (encI (metF ks s.seen))) (fun s => ks.length - s.seen.length) ⟨[], .sl [] .full, []⟩ ?_ ?_ ⟨.nil, by simp, .inl ⟨rfl, rfl⟩⟩ Ty.mixed (by kernel_rfl) ?_
    · simp (disch := omega) only [go_sem, bne_self_eq_false, beq_self_eq_true, true_and, and_true, decide_true, decide_false, wrap_i64, ↓reduceIte, Nat.reduceAdd, Nat.reduceSub, Nat.reduceMul, Nat.reduceEqDiff, Nat.reduceLeDiff, Int.reduceAdd, Int.reduceSub, Int.reduceNeg, Int.reduceLT, Int.reduceLE, Int.reduceEq, Int.reduceToNat, Nat.reduceMod]
    · simp [hK]
    rintro ⟨seen, v, j⟩ ⟨hn1, hn2, hv⟩
    simp only at hn1 hn2 hv ⊢
    have hml := met_len hn1 hn2
    simp (disch := omega) only [go_sem, bne_self_eq_false, beq_self_eq_true, true_and, and_true, decide_true, decide_false, wrap_i64, ↓reduceIte, Nat.reduceAdd, Nat.reduceSub, Nat.reduceMul, Nat.reduceEqDiff, Nat.reduceLeDiff, Int.reduceAdd, Int.reduceSub, Int.reduceNeg, Int.reduceLT, Int.reduceLE, Int.reduceEq, Int.reduceToNat, Nat.reduceMod, Ki, Km]
    refine ⟨rfl, ?_, ?_, ?_⟩
    · intro e he
      obtain ⟨b, hb1, rfl⟩ := entsB_mem _ _ _ he
      simpa using hb1
    · intro hall
      have hall' : ∀ b, b < ks.length → b ∈ seen := fun b hb => by simpa using hall _ (entsB_at ks 0 b hb).2
      have hperm := met_all hn1 hn2 hall'
      have hl12 : (metF ks seen).length ≤ 12 := by rw [hperm.length_eq]; exact hkl
      have hsrt : sortI (metF ks seen) = sortI ks := sortI_of (sortI_le _) ((sortI_perm _).trans hperm)
      simp (disch := omega) only [go_sem, bne_self_eq_false, beq_self_eq_true, true_and, and_true, decide_true, decide_false, wrap_i64, ↓reduceIte, Nat.reduceAdd, Nat.reduceSub, Nat.reduceMul, Nat.reduceEqDiff, Nat.reduceLeDiff, Int.reduceAdd, Int.reduceSub, Int.reduceNeg, Int.reduceLT, Int.reduceLE, Int.reduceEq, Int.reduceToNat, Nat.reduceMod]
      refine AWP.keep [4, 1000000] (aCode_ok Ty.mixed _ _ _ _ (by kernel_rfl) ?_)
      simp (disch := omega) only [go_sem, bne_self_eq_false, beq_self_eq_true, true_and, and_true, decide_true, decide_false, wrap_i64, ↓reduceIte, Nat.reduceAdd, Nat.reduceSub, Nat.reduceMul, Nat.reduceEqDiff, Nat.reduceLeDiff, Int.reduceAdd, Int.reduceSub, Int.reduceNeg, Int.reduceLT, Int.reduceLE, Int.reduceEq, Int.reduceToNat, Nat.reduceMod, Ks]
      have herr : lerrF (.mk p n l) al = 0 := by simp [lerrF, h1, ← hks, show ¬ 12 < ks.length by omega, hb, ascF]
      rcases hv with ⟨rfl, hnil⟩ | ⟨q, c, pad, rfl, hq, hc, hp⟩
      · have hk0 : sortI ks = [] := by
          have h5 : metF ks seen = [] := by
            cases hm : metF ks seen with
            | nil => rfl
            | cons a r => rw [hm] at hnil; simp [encI] at hnil
          rw [← hsrt, h5]; rfl
        refine ACalls.then (sort0_calls Γ _ _) ?_
        rintro _ _ rfl
        simp (disch := omega) only [go_sem, bne_self_eq_false, beq_self_eq_true, true_and, and_true, decide_true, decide_false, wrap_i64, ↓reduceIte, Nat.reduceAdd, Nat.reduceSub, Nat.reduceMul, Nat.reduceEqDiff, Nat.reduceLeDiff, Int.reduceAdd, Int.reduceSub, Int.reduceNeg, Int.reduceLT, Int.reduceLE, Int.reduceEq, Int.reduceToNat, Nat.reduceMod, Ks, Kw]
        refine ⟨⟨_, by rw [hK, List.append_assoc]⟩, .inl ?_⟩
        simp [lstrF, herr, strA, encI, ← hks, hk0]
        done
      · have hg : ∀ (v : AV) (s : List Nat) (R : AH), (K v s ++ R)[h.length + 6 + q]? = R[q]? := fun v s R => by rw [← Kl v s, hget_add]
        rw [encI_len]
        refine ACalls.then (sort_calls Γ (h.length + 6 + q) c 3 (metF ks seen) pad _ (by rw [hg]; exact hq) hl12) ?_
        rintro _ _ rfl
        rw [show ∀ (v : AV) (s : List Nat) (R : AH) (o : AObj), (K v s ++ R).set (h.length + 6 + q) o = K v s ++ R.set q o from fun v s R o => by rw [← Kl v s, hset_add]]
        simp (disch := omega) only [go_sem, bne_self_eq_false, beq_self_eq_true, true_and, and_true, decide_true, decide_false, wrap_i64, ↓reduceIte, Nat.reduceAdd, Nat.reduceSub, Nat.reduceMul, Nat.reduceEqDiff, Nat.reduceLeDiff, Int.reduceAdd, Int.reduceSub, Int.reduceNeg, Int.reduceLT, Int.reduceLE, Int.reduceEq, Int.reduceToNat, Nat.reduceMod, Ks, Kw]
        have hsl : (sortI (metF ks seen)).length = (metF ks seen).length := (sortI_perm _).length_eq
        refine ⟨⟨_, by rw [hK, List.append_assoc]⟩, .inr ⟨6 + q, encI (sortI (metF ks seen)) ++ pad, 3, ?_, ?_⟩⟩
        · rw [← Nat.add_assoc, hg, List.getElem?_set_self (List.getElem?_eq_some_iff.1 hq).1]
        · rw [← Nat.add_assoc, ← hsl]
          rw [encI_len] at hc
          have hfo := fz_own (h.length + 6 + q) c (sortI (metF ks seen)) pad (by omega) hp
          simp only [fz_tuple, fz_agg, fz_cons, fz_nil, fz_int, fz_sl, fz_Gs, hfo]
          simp (disch := omega) only [go_sem, bne_self_eq_false, beq_self_eq_true, true_and, and_true, decide_true, decide_false, wrap_i64, ↓reduceIte, Nat.reduceAdd, Nat.reduceSub, Nat.reduceMul, Nat.reduceEqDiff, Nat.reduceLeDiff, Int.reduceAdd, Int.reduceSub, Int.reduceNeg, Int.reduceLT, Int.reduceLE, Int.reduceEq, Int.reduceToNat, Nat.reduceMod, loose_Gs, rb_Gs]
          simp [lstrF, herr, strA, hsrt, ← hks]
    · intro e he hns
      obtain ⟨b, hb1, rfl⟩ := entsB_mem _ _ _ he
      rw [Nat.zero_add] at hns ⊢
      have hfd := (entsB_at ks 0 b hb1).1
      rw [Nat.zero_add] at hfd
      rw [Kj]
      simp (disch := omega) only [go_sem, bne_self_eq_false, beq_self_eq_true, true_and, and_true, decide_true, decide_false, wrap_i64, ↓reduceIte, Nat.reduceAdd, Nat.reduceSub, Nat.reduceMul, Nat.reduceEqDiff, Nat.reduceLeDiff, Int.reduceAdd, Int.reduceSub, Int.reduceNeg, Int.reduceLT, Int.reduceLE, Int.reduceEq, Int.reduceToNat, Nat.reduceMod, Ki, Km, hfd, Ks]
      refine ⟨by omega, rfl, by simp [AV.cells, AV.one], ?_⟩
      simp (disch := omega) only [go_sem, bne_self_eq_false, beq_self_eq_true, true_and, and_true, decide_true, decide_false, wrap_i64, ↓reduceIte, Nat.reduceAdd, Nat.reduceSub, Nat.reduceMul, Nat.reduceEqDiff, Nat.reduceLeDiff, Int.reduceAdd, Int.reduceSub, Int.reduceNeg, Int.reduceLT, Int.reduceLE, Int.reduceEq, Int.reduceToNat, Nat.reduceMod, Ks, Kl, List.append_assoc, List.length_append]
      refine aApM_own (xs := encI (metF ks seen)) (ys := encI [ks.getD b 0]) (by rw [Kl]; exact hv.more _) ⟨[.int .i64 (ks.getD b 0)], 3, ?_, rfl, by simp, by simp [AV.one], rfl⟩ (rowsOK_I _) (flat_I _) (by simp [encI]) ?_ ?_ fun v' j' hv' _ => ?_
      · rw [← Kl v (seen ++ [b]), hget_add]; simp [flat, AV.cells]
      · simp only [encI_len, metF, List.length_map, List.length_cons, List.length_nil]; omega
      · simp only [encI_len, metF, List.length_map, List.length_cons, List.length_nil]; omega
      rw [encI_app2] at hv'
      have hvc : v'.cells = [v'] := by rcases hv' with ⟨rfl, _⟩ | ⟨_, _, _, rfl, _⟩ <;> rfl
      have hvg : v'.good = true := by rcases hv' with ⟨rfl, _⟩ | ⟨_, _, _, rfl, _⟩ <;> rfl
      simp (disch := omega) only [go_sem, bne_self_eq_false, beq_self_eq_true, true_and, and_true, decide_true, decide_false, wrap_i64, ↓reduceIte, Nat.reduceAdd, Nat.reduceSub, Nat.reduceMul, Nat.reduceEqDiff, Nat.reduceLeDiff, Int.reduceAdd, Int.reduceSub, Int.reduceNeg, Int.reduceLT, Int.reduceLE, Int.reduceEq, Int.reduceToNat, Nat.reduceMod, Ks, Kw, hvc, hvg]
      have hq1 : (seen ++ [b]).Nodup := by rw [List.nodup_append]; exact ⟨hn1, by simp, by simpa using fun a ha e => hns (by simpa [← e] using ha)⟩
      have hq2 : ∀ a ∈ seen ++ [b], a < ks.length := by
        intro a ha
        rcases List.mem_append.1 ha with ha | ha
        · exact hn2 a ha
        · simp at ha; omega
      have hq3 := met_len hq1 hq2
      refine roundS_next ⟨seen ++ [b], v', j'⟩ ?_ ⟨hq1, hq2, ?_⟩ ?_ rfl
      · simp only [List.length_append, List.length_cons, List.length_nil] at hq3 ⊢; omega
      · rw [Kl] at hv'; simpa [metF] using hv'
      · simp (disch := omega) only [go_sem, bne_self_eq_false, beq_self_eq_true, true_and, and_true, decide_true, decide_false, wrap_i64, ↓reduceIte, Nat.reduceAdd, Nat.reduceSub, Nat.reduceMul, Nat.reduceEqDiff, Nat.reduceLeDiff, Int.reduceAdd, Int.reduceSub, Int.reduceNeg, Int.reduceLT, Int.reduceLE, Int.reduceEq, Int.reduceToNat, Nat.reduceMod]
end Go.Proofs.Ytopiamdfnaejeaa
