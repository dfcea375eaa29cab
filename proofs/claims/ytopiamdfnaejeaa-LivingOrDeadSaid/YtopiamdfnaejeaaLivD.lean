/- Copies of lists, deleting from them, lists without others. No conditions. -/
import Derived.Test.YtopiamdfnaejeaaLivC
set_option linter.unusedSimpArgs false
set_option linter.unusedVariables false
namespace Go.Proofs.Ytopiamdfnaejeaa
open Go Go.Proofs Go.Abs

/-! ### A function's code, arrays being of its own -/
theorem acalls_codeM {P : Program} {Γ : Nat → Option (List AV)} {h : AH} {f : FuncId} {fn : Func} {c : Code} {args : List AV} {rs : List ResultVar} {R : AV → AH → Prop} (hf : P.funcs[f]? = some fn) (hb : fn.body = some c) (hn : (fn.name == "runtime.NumGoroutine") = false)
    (hN : Nat.ble args.length fn.ntmps = true) (hM : Nat.ble fn.ntmps 1000000 = true) (hrs : fn.results = rs.toArray) (hm : P.follows .mixedOrders = true) (hc : codeOK fn.ntmps c = true) (H : aCode P Γ fn.ntmps c (endA P rs R) ((1000000, .tuple []) :: argsT 0 args) h) : ACalls P Γ f args h R :=
  acalls_of_awp hf hb hn hN hrs (AWP.mark (by simpa [Nat.ble_eq] using hM) (aCode_ok hm c _ _ _ hc H))
/-- All owners forgotten. -/
def lzs (σ : Tm) : Tm := σ.map fun p => (p.1, loose p.2)
theorem lk_lzs (σ : Tm) (i : Nat) : lk (lzs σ) i = loose (lk σ i) := by
  induction σ with
  | nil => rfl
  | cons p σ ih =>
    obtain ⟨q, v⟩ := p
    simp only [lzs, List.map_cons, lk] at ih ⊢
    split
    · rfl
    · exact ih
@[go_sem] theorem lzs_nil : lzs [] = [] := rfl
@[go_sem] theorem lzs_cons (i : Nat) (v : AV) (σ : Tm) : lzs ((i, v) :: σ) = (i, loose v) :: lzs σ := rfl
theorem AWP.lzs {P : Program} {Γ : Nat → Option (List AV)} {N : Nat} {c : Code} {Q : Exit → Tm → AH → Prop} {σ : Tm} {h : AH} (H : AWP P Γ N c Q (lzs σ) h) : AWP P Γ N c Q σ h :=
  H.wks fun G i v hv => by rw [lk_lzs]; exact loose_VR hv

theorem aCut_msLo (n i off len cap sz : Nat) (k : IntKind) (l : Int) (K : AV → Prop) :
    aCut (some (some n)) (.ms i off len cap sz) (some (.int k l)) none none K = (n = sz ∧ 0 ≤ l ∧ l ≤ len ∧ len ≤ cap ∧ K (.ms i (if (cap : Int) = l then off else off + l.toNat * sz) (len - l.toNat) (cap - l.toNat) sz)) := by
  simp only [aCut, aNat, Option.isSome_none, Bool.false_eq_true, false_implies, Int.le_refl, true_and, Int.toNat_natCast]
  apply propext; constructor
  · rintro ⟨h1, h2, h3, h4, h5⟩; exact ⟨h1, h2, h3, by omega, h5⟩
  · rintro ⟨h1, h2, h3, h4, h5⟩; exact ⟨h1, h2, h3, by omega, h5⟩
theorem aCut_msHi (n i off len cap sz : Nat) (k : IntKind) (u : Int) (K : AV → Prop) :
    aCut (some (some n)) (.ms i off len cap sz) none (some (.int k u)) none K = (n = sz ∧ 0 ≤ u ∧ u ≤ cap ∧ K (.ms i (if (cap : Int) = 0 then off else off + 0 * sz) u.toNat cap sz)) := by
  simp only [aCut, aNat, Option.isSome_none, Bool.false_eq_true, false_implies, Int.le_refl, true_and, Int.toNat_natCast, Int.toNat_zero, Nat.sub_zero, Int.ofNat_zero, Int.natCast_zero]

@[go_sem] theorem aBuiltin_clear {P : Program} {h : AH} (t : TypeId) (x : AV) (K : AV → AH → Prop) : aBuiltin P .clear [t] [x] h K = aClear P t x h K := (rfl)
theorem zrow_int (k : Nat) : zrow k [AV.int .i64 0] = encI (List.replicate k 0) := by
  induction k with
  | zero => rfl
  | succ k ih => simp only [zrow, List.replicate_succ, List.flatten_cons, encI_cons] at ih ⊢; rw [ih]; rfl

/-! ### Whether a number is in a list -/
set_option maxRecDepth 100000 in
theorem index_calls_I (Γ : Nat → Option (List AV)) (l : List Int) (x : Int) (h : AH) (hl : l.length ≤ 9223372036854775807) :
    ACalls Try.prog Γ 93 [.sl (encI l) .free, .int .i64 x] h fun v h' => h' = h ∧ ∃ m, v = .int .i64 m ∧ (0 ≤ m ↔ x ∈ l) := by
  refine acalls_code (rs := [.tmp 4]) Try.func93 rfl rfl rfl rfl Ty.mixed (by kernel_rfl) ?_
  simp (disch := omega) only [go_sem, bne_self_eq_false, beq_self_eq_true, true_and, and_true, decide_true, decide_false, wrap_i64, ↓reduceIte, Nat.reduceAdd, Nat.reduceSub, Nat.reduceMul, Nat.reduceEqDiff, Nat.reduceLeDiff, Int.reduceAdd, Int.reduceSub, Int.reduceNeg, Int.reduceLT, Int.reduceLE, Int.reduceEq, Int.reduceToNat, Nat.reduceMod]
  refine awp_loopL (β := Unit) l [8, 7, 1, 0] (fun don _ => [(8, .int .i64 don.length), (7, .int .i64 l.length), (1, .int .i64 x), (0, .sl (encI l) .free)])
      (fun b => h) (fun don rest b' => x ∈ l ↔ x ∈ rest) () ?_ rfl Iff.rfl Ty.mixed (by kernel_rfl) ?_ ?_
  · simp (disch := omega) only [go_sem, bne_self_eq_false, beq_self_eq_true, true_and, and_true, decide_true, decide_false, wrap_i64, ↓reduceIte, Nat.reduceAdd, Nat.reduceSub, Nat.reduceMul, Nat.reduceEqDiff, Nat.reduceLeDiff, Int.reduceAdd, Int.reduceSub, Int.reduceNeg, Int.reduceLT, Int.reduceLE, Int.reduceEq, Int.reduceToNat, Nat.reduceMod, encI_len]
  · rintro don y r _ rfl hs
    have hl3 := len_mid hl
    have e1 : (encI (don ++ y :: r))[don.length]? = some (.int .i64 y) := by simp [encI]
    simp (disch := omega) only [go_sem, bne_self_eq_false, beq_self_eq_true, true_and, and_true, decide_true, decide_false, wrap_i64, ↓reduceIte, Nat.reduceAdd, Nat.reduceSub, Nat.reduceMul, Nat.reduceEqDiff, Nat.reduceLeDiff, Int.reduceAdd, Int.reduceSub, Int.reduceNeg, Int.reduceLT, Int.reduceLE, Int.reduceEq, Int.reduceToNat, Nat.reduceMod, encI_len, List.length_append, List.length_cons]
    refine aIf.pos (by omega) ?_
    simp (disch := omega) only [go_sem, bne_self_eq_false, beq_self_eq_true, true_and, and_true, decide_true, decide_false, wrap_i64, ↓reduceIte, Nat.reduceAdd, Nat.reduceSub, Nat.reduceMul, Nat.reduceEqDiff, Nat.reduceLeDiff, Int.reduceAdd, Int.reduceSub, Int.reduceNeg, Int.reduceLT, Int.reduceLE, Int.reduceEq, Int.reduceToNat, Nat.reduceMod, encI_len, List.length_append, List.length_cons, e1]
    refine aIf.intro (fun h1 => ?_) (fun h1 => ?_) <;> simp (disch := omega) only [go_sem, bne_self_eq_false, beq_self_eq_true, true_and, and_true, decide_true, decide_false, wrap_i64, ↓reduceIte, Nat.reduceAdd, Nat.reduceSub, Nat.reduceMul, Nat.reduceEqDiff, Nat.reduceLeDiff, Int.reduceAdd, Int.reduceSub, Int.reduceNeg, Int.reduceLT, Int.reduceLE, Int.reduceEq, Int.reduceToNat, Nat.reduceMod]
    · refine ⟨_, rfl, ?_⟩
      rw [hs]; simp [h1]
    · refine roundL_next () ?_ ?_ rfl
      · rw [hs]; simp [h1]
      · simp (disch := omega) only [go_sem, bne_self_eq_false, beq_self_eq_true, true_and, and_true, decide_true, decide_false, wrap_i64, ↓reduceIte, Nat.reduceAdd, Nat.reduceSub, Nat.reduceMul, Nat.reduceEqDiff, Nat.reduceLeDiff, Int.reduceAdd, Int.reduceSub, Int.reduceNeg, Int.reduceLT, Int.reduceLE, Int.reduceEq, Int.reduceToNat, Nat.reduceMod, List.length_append]
  · intro _ hs
    simp (disch := omega) only [go_sem, bne_self_eq_false, beq_self_eq_true, true_and, and_true, decide_true, decide_false, wrap_i64, ↓reduceIte, Nat.reduceAdd, Nat.reduceSub, Nat.reduceMul, Nat.reduceEqDiff, Nat.reduceLeDiff, Int.reduceAdd, Int.reduceSub, Int.reduceNeg, Int.reduceLT, Int.reduceLE, Int.reduceEq, Int.reduceToNat, Nat.reduceMod, encI_len]
    refine AWP.keep [0] (aCode_ok Ty.mixed _ _ _ _ (by kernel_rfl) ?_)
    simp (disch := omega) only [go_sem, bne_self_eq_false, beq_self_eq_true, true_and, and_true, decide_true, decide_false, wrap_i64, ↓reduceIte, Nat.reduceAdd, Nat.reduceSub, Nat.reduceMul, Nat.reduceEqDiff, Nat.reduceLeDiff, Int.reduceAdd, Int.reduceSub, Int.reduceNeg, Int.reduceLT, Int.reduceLE, Int.reduceEq, Int.reduceToNat, Nat.reduceMod]
    refine ⟨_, rfl, ?_⟩
    rw [hs]; simp
set_option maxRecDepth 100000 in
theorem contains_calls_I (Γ : Nat → Option (List AV)) (l : List Int) (x : Int) (h : AH) (hl : l.length ≤ 9223372036854775807) :
    ACalls Try.prog Γ 79 [.sl (encI l) .free, .int .i64 x] h fun v h' => h' = h ∧ v = .bool (decide (x ∈ l)) := by
  refine acalls_code (rs := [.tmp 4]) Try.func79 rfl rfl rfl rfl Ty.mixed (by kernel_rfl) ?_
  simp (disch := omega) only [go_sem, bne_self_eq_false, beq_self_eq_true, true_and, and_true, decide_true, decide_false, wrap_i64, ↓reduceIte, Nat.reduceAdd, Nat.reduceSub, Nat.reduceMul, Nat.reduceEqDiff, Nat.reduceLeDiff, Int.reduceAdd, Int.reduceSub, Int.reduceNeg, Int.reduceLT, Int.reduceLE, Int.reduceEq, Int.reduceToNat, Nat.reduceMod]
  refine ACalls.then (index_calls_I Γ l x _ hl) ?_
  rintro _ _ ⟨rfl, m, rfl, hm⟩
  simp (disch := omega) only [go_sem, bne_self_eq_false, beq_self_eq_true, true_and, and_true, decide_true, decide_false, wrap_i64, ↓reduceIte, Nat.reduceAdd, Nat.reduceSub, Nat.reduceMul, Nat.reduceEqDiff, Nat.reduceLeDiff, Int.reduceAdd, Int.reduceSub, Int.reduceNeg, Int.reduceLT, Int.reduceLE, Int.reduceEq, Int.reduceToNat, Nat.reduceMod]
  simp [hm]
set_option maxRecDepth 100000 in
theorem outside_calls (Γ : Nat → Option (List AV)) (l : List Int) (x : Int) (i : Nat) (h : AH) (hl : l.length ≤ 9223372036854775807) (hi : h[i]? = some (.row [.sl (encI l) .free] 25)) :
    ACalls Try.prog Γ 78 [.int .i64 x, .ptr (some (i, 0))] h fun v h' => h' = h ∧ v = .bool (decide (x ∈ l)) := by
  refine acalls_code (rs := [.tmp 3]) Try.func78 rfl rfl rfl rfl Ty.mixed (by kernel_rfl) ?_
  simp (disch := omega) only [go_sem, bne_self_eq_false, beq_self_eq_true, true_and, and_true, decide_true, decide_false, wrap_i64, ↓reduceIte, Nat.reduceAdd, Nat.reduceSub, Nat.reduceMul, Nat.reduceEqDiff, Nat.reduceLeDiff, Int.reduceAdd, Int.reduceSub, Int.reduceNeg, Int.reduceLT, Int.reduceLE, Int.reduceEq, Int.reduceToNat, Nat.reduceMod, hi]
  refine ACalls.det (contains_calls_I Γ l x _ hl) ?_
  simp (disch := omega) only [go_sem, bne_self_eq_false, beq_self_eq_true, true_and, and_true, decide_true, decide_false, wrap_i64, ↓reduceIte, Nat.reduceAdd, Nat.reduceSub, Nat.reduceMul, Nat.reduceEqDiff, Nat.reduceLeDiff, Int.reduceAdd, Int.reduceSub, Int.reduceNeg, Int.reduceLT, Int.reduceLE, Int.reduceEq, Int.reduceToNat, Nat.reduceMod]

/-! ### Copies -/
set_option maxRecDepth 100000 in
theorem clone_calls (Γ : Nat → Option (List AV)) (l : List Int) (h : AH) (hl : l.length ≤ 1000000) :
    ACalls Try.prog Γ 77 [.sl (encI l) .free] h fun v h' => ∃ j, h' = h ++ j ∧ OwnM h.length j 3 v (encI l) := by
  refine acalls_codeM (rs := [.tmp 2]) Try.func77 rfl rfl rfl rfl rfl Ty.mixed (by kernel_rfl) ?_
  simp (disch := omega) only [go_sem, bne_self_eq_false, beq_self_eq_true, true_and, and_true, decide_true, decide_false, wrap_i64, ↓reduceIte, Nat.reduceAdd, Nat.reduceSub, Nat.reduceMul, Nat.reduceEqDiff, Nat.reduceLeDiff, Int.reduceAdd, Int.reduceSub, Int.reduceNeg, Int.reduceLT, Int.reduceLE, Int.reduceEq, Int.reduceToNat, Nat.reduceMod]
  refine aNlT_eql (fun h0 => ?_) ?_ <;> simp (disch := omega) only [go_sem, bne_self_eq_false, beq_self_eq_true, true_and, and_true, decide_true, decide_false, wrap_i64, ↓reduceIte, Nat.reduceAdd, Nat.reduceSub, Nat.reduceMul, Nat.reduceEqDiff, Nat.reduceLeDiff, Int.reduceAdd, Int.reduceSub, Int.reduceNeg, Int.reduceLT, Int.reduceLE, Int.reduceEq, Int.reduceToNat, Nat.reduceMod]
  · exact ⟨[], by simp, .inl ⟨rfl, h0⟩⟩
  refine ⟨by omega, rfl, by simp, ?_⟩
  simp (disch := omega) only [go_sem, bne_self_eq_false, beq_self_eq_true, true_and, and_true, decide_true, decide_false, wrap_i64, ↓reduceIte, Nat.reduceAdd, Nat.reduceSub, Nat.reduceMul, Nat.reduceEqDiff, Nat.reduceLeDiff, Int.reduceAdd, Int.reduceSub, Int.reduceNeg, Int.reduceLT, Int.reduceLE, Int.reduceEq, Int.reduceToNat, Nat.reduceMod, List.map_nil]
  refine ⟨encI l, rfl, rowsOK_I _, rfl, ?_⟩
  simp (disch := omega) only [go_sem, bne_self_eq_false, beq_self_eq_true, true_and, and_true, decide_true, decide_false, wrap_i64, ↓reduceIte, Nat.reduceAdd, Nat.reduceSub, Nat.reduceMul, Nat.reduceEqDiff, Nat.reduceLeDiff, Int.reduceAdd, Int.reduceSub, Int.reduceNeg, Int.reduceLT, Int.reduceLE, Int.reduceEq, Int.reduceToNat, Nat.reduceMod, encI_len]
  refine ⟨by omega, by omega, by simp, fun h0 => ?_, fun h0 c hc => ?_⟩
  · have : l = [] := List.eq_nil_of_length_eq_zero (by omega)
    subst this
    exact ⟨_, rfl, .inr ⟨0, 0, [], rfl, rfl, rfl, by simp⟩⟩
  · refine ⟨_, rfl, .inr ⟨1, c, List.replicate (c - l.length) .top, ?_, ?_, ?_, fun a ha => by rw [List.eq_of_mem_replicate ha]; rfl⟩⟩
    · simp [encI_len]
    · simp [flat_I]
    · simp [encI_len]; omega

/-! ### Deleting -/
set_option maxRecDepth 100000 in
theorem findI_calls (Γ : Nat → Option (List AV)) (l : List Int) (p : Int → Bool) (fn : FuncId) (fs cs : List AV) (i c : Nat) (pad : List AV) (T : TypeId) (h : AH) (hl : l.length ≤ 1000000)
    (hi : h[i]? = some (.row (encI l ++ pad) T)) (H : ∀ x, ACalls Try.prog Γ fn (fs ++ .int .i64 x :: cs) h fun v h' => h' = h ∧ v = .bool (p x)) :
    ACalls Try.prog Γ 103 [.ms i 0 l.length c 1, .func fn fs cs] h fun v h' => h' = h ∧ ∃ m, v = .int .i64 m ∧ ((m = -1 ∧ ∀ x ∈ l, p x = false) ∨ ∃ a x r, l = a ++ x :: r ∧ m = a.length ∧ p x = true ∧ ∀ y ∈ a, p y = false) := by
  refine acalls_code (rs := [.tmp 4]) Try.func103 rfl rfl rfl rfl Ty.mixed (by kernel_rfl) ?_
  simp (disch := omega) only [go_sem, bne_self_eq_false, beq_self_eq_true, true_and, and_true, decide_true, decide_false, wrap_i64, ↓reduceIte, Nat.reduceAdd, Nat.reduceSub, Nat.reduceMul, Nat.reduceEqDiff, Nat.reduceLeDiff, Int.reduceAdd, Int.reduceSub, Int.reduceNeg, Int.reduceLT, Int.reduceLE, Int.reduceEq, Int.reduceToNat, Nat.reduceMod]
  refine awp_loopL (β := Unit) l [8, 7, 1, 0] (fun don _ => [(8, .int .i64 don.length), (7, .int .i64 l.length), (1, .func fn fs cs), (0, .ms i 0 l.length c 1)])
      (fun b => h) (fun don rest b' => ∀ y ∈ don, p y = false) () ?_ rfl (by simp) Ty.mixed (by kernel_rfl) ?_ ?_
  · simp (disch := omega) only [go_sem, bne_self_eq_false, beq_self_eq_true, true_and, and_true, decide_true, decide_false, wrap_i64, ↓reduceIte, Nat.reduceAdd, Nat.reduceSub, Nat.reduceMul, Nat.reduceEqDiff, Nat.reduceLeDiff, Int.reduceAdd, Int.reduceSub, Int.reduceNeg, Int.reduceLT, Int.reduceLE, Int.reduceEq, Int.reduceToNat, Nat.reduceMod]
  · rintro don y r _ rfl hs
    have hl3 := len_mid hl
    simp (disch := omega) only [go_sem, bne_self_eq_false, beq_self_eq_true, true_and, and_true, decide_true, decide_false, wrap_i64, ↓reduceIte, Nat.reduceAdd, Nat.reduceSub, Nat.reduceMul, Nat.reduceEqDiff, Nat.reduceLeDiff, Int.reduceAdd, Int.reduceSub, Int.reduceNeg, Int.reduceLT, Int.reduceLE, Int.reduceEq, Int.reduceToNat, Nat.reduceMod, List.length_append, List.length_cons]
    refine aIf.pos (by omega) ?_
    simp (disch := omega) only [go_sem, bne_self_eq_false, beq_self_eq_true, true_and, and_true, decide_true, decide_false, wrap_i64, ↓reduceIte, Nat.reduceAdd, Nat.reduceSub, Nat.reduceMul, Nat.reduceEqDiff, Nat.reduceLeDiff, Int.reduceAdd, Int.reduceSub, Int.reduceNeg, Int.reduceLT, Int.reduceLE, Int.reduceEq, Int.reduceToNat, Nat.reduceMod, List.length_append, List.length_cons, Nat.zero_add, Nat.mul_one, hi, encI_app, encI_cons, drop_at, List.append_assoc, List.cons_append]
    refine ⟨by omega, ?_⟩
    refine ACalls.det (H y) ?_
    simp (disch := omega) only [go_sem, bne_self_eq_false, beq_self_eq_true, true_and, and_true, decide_true, decide_false, wrap_i64, ↓reduceIte, Nat.reduceAdd, Nat.reduceSub, Nat.reduceMul, Nat.reduceEqDiff, Nat.reduceLeDiff, Int.reduceAdd, Int.reduceSub, Int.reduceNeg, Int.reduceLT, Int.reduceLE, Int.reduceEq, Int.reduceToNat, Nat.reduceMod]
    refine aBr.intro (fun hb => ?_) (fun hb => ?_) <;> simp (disch := omega) only [go_sem, bne_self_eq_false, beq_self_eq_true, true_and, and_true, decide_true, decide_false, wrap_i64, ↓reduceIte, Nat.reduceAdd, Nat.reduceSub, Nat.reduceMul, Nat.reduceEqDiff, Nat.reduceLeDiff, Int.reduceAdd, Int.reduceSub, Int.reduceNeg, Int.reduceLT, Int.reduceLE, Int.reduceEq, Int.reduceToNat, Nat.reduceMod]
    · exact ⟨_, rfl, .inr ⟨don, y, r, rfl, rfl, hb, hs⟩⟩
    · refine roundL_next () ?_ ?_ rfl
      · intro z hz
        rcases List.mem_append.1 hz with hz | hz
        · exact hs z hz
        · simp at hz; subst hz; simpa using hb
      · simp (disch := omega) only [go_sem, bne_self_eq_false, beq_self_eq_true, true_and, and_true, decide_true, decide_false, wrap_i64, ↓reduceIte, Nat.reduceAdd, Nat.reduceSub, Nat.reduceMul, Nat.reduceEqDiff, Nat.reduceLeDiff, Int.reduceAdd, Int.reduceSub, Int.reduceNeg, Int.reduceLT, Int.reduceLE, Int.reduceEq, Int.reduceToNat, Nat.reduceMod, List.length_append]
  · intro _ hs
    simp (disch := omega) only [go_sem, bne_self_eq_false, beq_self_eq_true, true_and, and_true, decide_true, decide_false, wrap_i64, ↓reduceIte, Nat.reduceAdd, Nat.reduceSub, Nat.reduceMul, Nat.reduceEqDiff, Nat.reduceLeDiff, Int.reduceAdd, Int.reduceSub, Int.reduceNeg, Int.reduceLT, Int.reduceLE, Int.reduceEq, Int.reduceToNat, Nat.reduceMod]
    refine AWP.keep [0] (aCode_ok Ty.mixed _ _ _ _ (by kernel_rfl) ?_)
    simp (disch := omega) only [go_sem, bne_self_eq_false, beq_self_eq_true, true_and, and_true, decide_true, decide_false, wrap_i64, ↓reduceIte, Nat.reduceAdd, Nat.reduceSub, Nat.reduceMul, Nat.reduceEqDiff, Nat.reduceLeDiff, Int.reduceAdd, Int.reduceSub, Int.reduceNeg, Int.reduceLT, Int.reduceLE, Int.reduceEq, Int.reduceToNat, Nat.reduceMod]
    exact ⟨_, rfl, .inl ⟨rfl, hs⟩⟩
structure DelS where
  kept : List Int
  g : List Int
  rest : List Int
set_option maxRecDepth 100000 in
theorem delete_calls (Γ : Nat → Option (List AV)) (l : List Int) (p : Int → Bool) (fn : FuncId) (fs cs : List AV) (i c : Nat) (pad : List AV) (T : TypeId) (h : AH) (hl : l.length ≤ 1000000)
    (hlc : l.length ≤ c) (hi : h[i]? = some (.row (encI l ++ pad) T)) (hp : ∀ a ∈ pad, a.isAgg = false) (H : ∀ o x, ACalls Try.prog Γ fn (fs ++ .int .i64 x :: cs) (h.set i (.row o T)) fun v h' => h' = h.set i (.row o T) ∧ v = .bool (p x)) :
    ACalls Try.prog Γ 76 [.ms i 0 l.length c 1, .func fn fs cs] h fun v h' => ∃ pad', (∀ a ∈ pad', a.isAgg = false) ∧ h' = h.set i (.row (encI (l.filter fun x => !p x) ++ pad') T) ∧ v = .ms i 0 (l.filter fun x => !p x).length c 1 := by
  have hk : i < h.length := (List.getElem?_eq_some_iff.1 hi).1
  have H0 : ∀ x, ACalls Try.prog Γ fn (fs ++ .int .i64 x :: cs) h fun v h' => h' = h ∧ v = .bool (p x) := fun x => by
    have := H (encI l ++ pad) x
    rwa [hset_same hi] at this
  refine acalls_code (rs := [.tmp 4]) Try.func76 rfl rfl rfl rfl Ty.mixed (by kernel_rfl) ?_
  simp (disch := omega) only [go_sem, bne_self_eq_false, beq_self_eq_true, true_and, and_true, decide_true, decide_false, wrap_i64, ↓reduceIte, Nat.reduceAdd, Nat.reduceSub, Nat.reduceMul, Nat.reduceEqDiff, Nat.reduceLeDiff, Int.reduceAdd, Int.reduceSub, Int.reduceNeg, Int.reduceLT, Int.reduceLE, Int.reduceEq, Int.reduceToNat, Nat.reduceMod]
  refine ACalls.then (findI_calls Γ l p fn fs cs i c pad T h hl hi H0) ?_
  rintro _ h2 ⟨h2e, m, rfl, hm⟩
  rw [h2e]
  clear h2e h2
  simp (disch := omega) only [go_sem, bne_self_eq_false, beq_self_eq_true, true_and, and_true, decide_true, decide_false, wrap_i64, ↓reduceIte, Nat.reduceAdd, Nat.reduceSub, Nat.reduceMul, Nat.reduceEqDiff, Nat.reduceLeDiff, Int.reduceAdd, Int.reduceSub, Int.reduceNeg, Int.reduceLT, Int.reduceLE, Int.reduceEq, Int.reduceToNat, Nat.reduceMod]
  rcases hm with ⟨rfl, hm⟩ | ⟨a, x, r, rfl, rfl, hx, ha⟩
  · refine aIf.pos rfl ?_
    simp (disch := omega) only [go_sem, bne_self_eq_false, beq_self_eq_true, true_and, and_true, decide_true, decide_false, wrap_i64, ↓reduceIte, Nat.reduceAdd, Nat.reduceSub, Nat.reduceMul, Nat.reduceEqDiff, Nat.reduceLeDiff, Int.reduceAdd, Int.reduceSub, Int.reduceNeg, Int.reduceLT, Int.reduceLE, Int.reduceEq, Int.reduceToNat, Nat.reduceMod]
    refine ⟨pad, hp, ?_, ?_⟩ <;> rw [List.filter_eq_self.2 fun x hx => by simp [hm x hx]]
    rw [hset_same hi]
  refine aIf.neg (by omega) ?_
  have hlr := len_mid hl
  have hll : (a ++ x :: r).length = a.length + 1 + r.length := by simp; omega
  rw [hll] at hlc
  simp (disch := omega) only [go_sem, bne_self_eq_false, beq_self_eq_true, true_and, and_true, decide_true, decide_false, wrap_i64, ↓reduceIte, Nat.reduceAdd, Nat.reduceSub, Nat.reduceMul, Nat.reduceEqDiff, Nat.reduceLeDiff, Int.reduceAdd, Int.reduceSub, Int.reduceNeg, Int.reduceLT, Int.reduceLE, Int.reduceEq, Int.reduceToNat, Nat.reduceMod]
  refine awp_loopS (α := DelS) [0, 1, 5, 6] (fun s => [(0, .ms i 0 (a ++ x :: r).length c 1), (1, .func fn fs cs), (5, .int .i64 s.kept.length), (6, .int .i64 (s.kept.length + s.g.length))])
    (fun s => h.set i (.row (encI (s.kept ++ (s.g ++ s.rest)) ++ pad) T)) (fun s => s.g ≠ [] ∧ s.kept.length + s.g.length + s.rest.length = (a ++ x :: r).length ∧ (a ++ x :: r).filter (fun x => !p x) = s.kept ++ s.rest.filter fun x => !p x) (fun s => s.rest.length) ⟨a, [x], r⟩ ?_ ?_ ⟨by simp, by simp; omega, ?_⟩ Ty.mixed (by kernel_rfl) ?_
  · simp (disch := omega) only [go_sem, bne_self_eq_false, beq_self_eq_true, true_and, and_true, decide_true, decide_false, wrap_i64, ↓reduceIte, Nat.reduceAdd, Nat.reduceSub, Nat.reduceMul, Nat.reduceEqDiff, Nat.reduceLeDiff, Int.reduceAdd, Int.reduceSub, Int.reduceNeg, Int.reduceLT, Int.reduceLE, Int.reduceEq, Int.reduceToNat, Nat.reduceMod, List.length_cons, List.length_nil]
  · rw [show a ++ ([x] ++ r) = a ++ x :: r from rfl, hset_same hi]
  · rw [List.filter_append, List.filter_eq_self.2 fun y hy => by simp [ha y hy], List.filter_cons, if_neg (by simp [hx])]
  rintro ⟨kept, g, rest⟩ ⟨hg, hsum, hfil⟩
  simp only at hg hsum hfil ⊢
  rw [hll] at hsum
  simp (disch := omega) only [go_sem, bne_self_eq_false, beq_self_eq_true, true_and, and_true, decide_true, decide_false, wrap_i64, ↓reduceIte, Nat.reduceAdd, Nat.reduceSub, Nat.reduceMul, Nat.reduceEqDiff, Nat.reduceLeDiff, Int.reduceAdd, Int.reduceSub, Int.reduceNeg, Int.reduceLT, Int.reduceLE, Int.reduceEq, Int.reduceToNat, Nat.reduceMod]
  cases rest with
  | nil =>
    simp only [List.length_nil, List.filter_nil, List.append_nil] at hsum hfil ⊢
    refine aIf.neg (by omega) ?_
    refine AWP.keep [0, 5] (aCode_ok Ty.mixed _ _ _ _ (by kernel_rfl) ?_)
    simp (disch := omega) only [go_sem, bne_self_eq_false, beq_self_eq_true, true_and, and_true, decide_true, decide_false, wrap_i64, ↓reduceIte, Nat.reduceAdd, Nat.reduceSub, Nat.reduceMul, Nat.reduceEqDiff, Nat.reduceLeDiff, Int.reduceAdd, Int.reduceSub, Int.reduceNeg, Int.reduceLT, Int.reduceLE, Int.reduceEq, Int.reduceToNat, Nat.reduceMod, aCut_msLo, aCut_msHi, hll]
    have hgl : 1 ≤ g.length := by cases g with
      | nil => exact absurd rfl hg
      | cons a g => simp
    refine ⟨by omega, by omega, ?_⟩
    rw [if_neg (by omega)]
    simp (disch := omega) only [go_sem, bne_self_eq_false, beq_self_eq_true, true_and, and_true, decide_true, decide_false, wrap_i64, ↓reduceIte, Nat.reduceAdd, Nat.reduceSub, Nat.reduceMul, Nat.reduceEqDiff, Nat.reduceLeDiff, Int.reduceAdd, Int.reduceSub, Int.reduceNeg, Int.reduceLT, Int.reduceLE, Int.reduceEq, Int.reduceToNat, Nat.reduceMod, List.getElem?_set_self hk, List.set_set, aCut_msLo, aCut_msHi, hll, Nat.zero_add, Nat.mul_one]
    have hgm : a.length + 1 + r.length - kept.length = g.length := by omega
    rw [hgm, zrow_int]
    refine ⟨by simp [encI_len], by omega, encI (List.replicate g.length 0) ++ pad, ?_, ?_, ?_⟩
    · intro b hb
      rcases List.mem_append.1 hb with hb | hb
      · obtain ⟨x, _, rfl⟩ := List.mem_map.1 hb; rfl
      · exact hp b hb
    · have := splice_app (xs := encI kept) (pad := encI g ++ pad) (ys := encI (List.replicate g.length 0)) (by simp [encI_len])
      rw [Nat.zero_add, Nat.mul_one, encI_len, encI_len, List.length_replicate, ← encI_len g, List.drop_left, ← List.append_assoc, ← encI_app, encI_len] at this
      rw [this, hfil, List.append_assoc]
    · rw [hfil, ite_self]
  | cons y rest =>
    simp only [List.length_cons] at hsum
    refine aIf.pos (by omega) ?_
    have ix1 : ((kept.length : Int) + g.length).toNat = kept.length + g.length := by omega
    have ed : (encI (kept ++ (g ++ y :: rest)) ++ pad).drop (kept.length + g.length) = .int .i64 y :: (encI rest ++ pad) := by
      rw [← List.append_assoc, encI_app, encI_cons, List.append_assoc, show kept.length + g.length = (encI (kept ++ g)).length from by simp [encI_len], List.drop_left]; rfl
    simp (disch := omega) only [go_sem, bne_self_eq_false, beq_self_eq_true, true_and, and_true, decide_true, decide_false, wrap_i64, ↓reduceIte, Nat.reduceAdd, Nat.reduceSub, Nat.reduceMul, Nat.reduceEqDiff, Nat.reduceLeDiff, Int.reduceAdd, Int.reduceSub, Int.reduceNeg, Int.reduceLT, Int.reduceLE, Int.reduceEq, Int.reduceToNat, Nat.reduceMod, List.getElem?_set_self hk, hll, ix1, Nat.zero_add, Nat.mul_one, ed]
    refine ⟨by omega, by omega, ?_⟩
    refine ACalls.det ((H _ y).args (by simp)) ?_
    simp (disch := omega) only [go_sem, bne_self_eq_false, beq_self_eq_true, true_and, and_true, decide_true, decide_false, wrap_i64, ↓reduceIte, Nat.reduceAdd, Nat.reduceSub, Nat.reduceMul, Nat.reduceEqDiff, Nat.reduceLeDiff, Int.reduceAdd, Int.reduceSub, Int.reduceNeg, Int.reduceLT, Int.reduceLE, Int.reduceEq, Int.reduceToNat, Nat.reduceMod]
    refine aBr.intro (fun hb => ?_) (fun hb => ?_) <;> simp (disch := omega) only [go_sem, bne_self_eq_false, beq_self_eq_true, true_and, and_true, decide_true, decide_false, wrap_i64, ↓reduceIte, Nat.reduceAdd, Nat.reduceSub, Nat.reduceMul, Nat.reduceEqDiff, Nat.reduceLeDiff, Int.reduceAdd, Int.reduceSub, Int.reduceNeg, Int.reduceLT, Int.reduceLE, Int.reduceEq, Int.reduceToNat, Nat.reduceMod, hll]
    · refine roundS_next ⟨kept, g ++ [y], rest⟩ ?_ ⟨by simp, ?_, ?_⟩ ?_ ?_
      · simp
      · simp only [List.length_append, List.length_cons, List.length_nil, hll]; omega
      · rw [hfil, List.filter_cons, if_neg (by simp [hb])]
      · simp (disch := omega) only [go_sem, bne_self_eq_false, beq_self_eq_true, true_and, and_true, decide_true, decide_false, wrap_i64, ↓reduceIte, Nat.reduceAdd, Nat.reduceSub, Nat.reduceMul, Nat.reduceEqDiff, Nat.reduceLeDiff, Int.reduceAdd, Int.reduceSub, Int.reduceNeg, Int.reduceLT, Int.reduceLE, Int.reduceEq, Int.reduceToNat, Nat.reduceMod, List.length_append, List.length_cons, List.length_nil, hll, Int.natCast_add, Int.natCast_one, Int.add_assoc]
      · simp
    · cases g with
      | nil => exact absurd rfl hg
      | cons g0 gs =>
        have eset : (encI (kept ++ g0 :: (gs ++ y :: rest)) ++ pad).set kept.length (.int .i64 y) = encI (kept ++ y :: (gs ++ y :: rest)) ++ pad := by
          rw [encI_app, encI_cons, List.append_assoc, List.cons_append, set_at]; simp [encI]
        simp only [List.length_cons] at hsum
        simp (disch := omega) only [go_sem, bne_self_eq_false, beq_self_eq_true, true_and, and_true, decide_true, decide_false, wrap_i64, ↓reduceIte, Nat.reduceAdd, Nat.reduceSub, Nat.reduceMul, Nat.reduceEqDiff, Nat.reduceLeDiff, Int.reduceAdd, Int.reduceSub, Int.reduceNeg, Int.reduceLT, Int.reduceLE, Int.reduceEq, Int.reduceToNat, Nat.reduceMod, List.getElem?_set_self hk, List.set_set, Nat.zero_add, Nat.mul_one, hll, eset, List.cons_append]
        refine ⟨by omega, by simp [encI_len]; omega, ?_⟩
        refine roundS_next ⟨kept ++ [y], gs ++ [y], rest⟩ ?_ ⟨by simp, ?_, ?_⟩ ?_ ?_
        · simp
        · simp only [List.length_append, List.length_cons, List.length_nil]; omega
        · rw [hfil, List.filter_cons, if_pos (by simp [hb])]; simp
        · simp (disch := omega) only [go_sem, bne_self_eq_false, beq_self_eq_true, true_and, and_true, decide_true, decide_false, wrap_i64, ↓reduceIte, Nat.reduceAdd, Nat.reduceSub, Nat.reduceMul, Nat.reduceEqDiff, Nat.reduceLeDiff, Int.reduceAdd, Int.reduceSub, Int.reduceNeg, Int.reduceLT, Int.reduceLE, Int.reduceEq, Int.reduceToNat, Nat.reduceMod, List.length_append, List.length_cons, List.length_nil, hll, Int.natCast_add, Int.natCast_one, Int.add_assoc]
          rw [show ((kept.length : Int) + (gs.length + 2)) = kept.length + (1 + (gs.length + 1)) from by omega]
        · simp

set_option maxRecDepth 100000 in
theorem find0_calls (Γ : Nat → Option (List AV)) (fv : AV) (o : Abs.Own) (h : AH) :
    ACalls Try.prog Γ 103 [.sl [] o, fv] h fun v h' => h' = h ∧ v = .int .i64 (-1) := by
  refine acalls_code (rs := [.tmp 4]) Try.func103 rfl rfl rfl rfl Ty.mixed (by kernel_rfl) ?_
  simp (disch := omega) only [go_sem, bne_self_eq_false, beq_self_eq_true, true_and, and_true, decide_true, decide_false, wrap_i64, ↓reduceIte, Nat.reduceAdd, Nat.reduceSub, Nat.reduceMul, Nat.reduceEqDiff, Nat.reduceLeDiff, Int.reduceAdd, Int.reduceSub, Int.reduceNeg, Int.reduceLT, Int.reduceLE, Int.reduceEq, Int.reduceToNat, Nat.reduceMod]
  refine awp_loopS (α := Unit) [8, 7] (fun _ => [(8, .int .i64 0), (7, .int .i64 0)]) (fun b => h) (fun _ => True) (fun _ => 0) () ?_ rfl trivial Ty.mixed (by kernel_rfl) ?_
  · simp (disch := omega) only [go_sem, bne_self_eq_false, beq_self_eq_true, true_and, and_true, decide_true, decide_false, wrap_i64, ↓reduceIte, Nat.reduceAdd, Nat.reduceSub, Nat.reduceMul, Nat.reduceEqDiff, Nat.reduceLeDiff, Int.reduceAdd, Int.reduceSub, Int.reduceNeg, Int.reduceLT, Int.reduceLE, Int.reduceEq, Int.reduceToNat, Nat.reduceMod]
  intro _ _
  simp (disch := omega) only [go_sem, bne_self_eq_false, beq_self_eq_true, true_and, and_true, decide_true, decide_false, wrap_i64, ↓reduceIte, Nat.reduceAdd, Nat.reduceSub, Nat.reduceMul, Nat.reduceEqDiff, Nat.reduceLeDiff, Int.reduceAdd, Int.reduceSub, Int.reduceNeg, Int.reduceLT, Int.reduceLE, Int.reduceEq, Int.reduceToNat, Nat.reduceMod]
  refine AWP.keep [8] (aCode_ok Ty.mixed _ _ _ _ (by kernel_rfl) ?_)
  simp (disch := omega) only [go_sem, bne_self_eq_false, beq_self_eq_true, true_and, and_true, decide_true, decide_false, wrap_i64, ↓reduceIte, Nat.reduceAdd, Nat.reduceSub, Nat.reduceMul, Nat.reduceEqDiff, Nat.reduceLeDiff, Int.reduceAdd, Int.reduceSub, Int.reduceNeg, Int.reduceLT, Int.reduceLE, Int.reduceEq, Int.reduceToNat, Nat.reduceMod]
set_option maxRecDepth 100000 in
theorem delete0_calls (Γ : Nat → Option (List AV)) (fn : FuncId) (fs cs : List AV) (h : AH) :
    ACalls Try.prog Γ 76 [.sl [] .full, .func fn fs cs] h fun v h' => h' = h ∧ v = .sl [] .full := by
  refine acalls_code (rs := [.tmp 4]) Try.func76 rfl rfl rfl rfl Ty.mixed (by kernel_rfl) ?_
  simp (disch := omega) only [go_sem, bne_self_eq_false, beq_self_eq_true, true_and, and_true, decide_true, decide_false, wrap_i64, ↓reduceIte, Nat.reduceAdd, Nat.reduceSub, Nat.reduceMul, Nat.reduceEqDiff, Nat.reduceLeDiff, Int.reduceAdd, Int.reduceSub, Int.reduceNeg, Int.reduceLT, Int.reduceLE, Int.reduceEq, Int.reduceToNat, Nat.reduceMod]
  refine ACalls.det (find0_calls Γ _ _ h) ?_
  simp (disch := omega) only [go_sem, bne_self_eq_false, beq_self_eq_true, true_and, and_true, decide_true, decide_false, wrap_i64, ↓reduceIte, Nat.reduceAdd, Nat.reduceSub, Nat.reduceMul, Nat.reduceEqDiff, Nat.reduceLeDiff, Int.reduceAdd, Int.reduceSub, Int.reduceNeg, Int.reduceLT, Int.reduceLE, Int.reduceEq, Int.reduceToNat, Nat.reduceMod]

/-! ### Lists without others -/
set_option maxRecDepth 100000 in
theorem without_calls' (Γ : Nat → Option (List AV)) (l out : List Int) (h : AH) (hl : l.length ≤ 1000000) (ho : out.length ≤ 1000000) :
    ACalls Try.prog Γ 47 [.sl (encI l) .free, .sl (encI out) .free] h fun v h' => h' = h ∧ v = .sl (encI (wtF l out)) .free := by
  refine ACalls.endM ?_
  refine acalls_code (rs := [.tmp 4]) Try.func47 rfl rfl rfl rfl Ty.mixed (by kernel_rfl) ?_
  simp (disch := omega) only [go_sem, bne_self_eq_false, beq_self_eq_true, true_and, and_true, decide_true, decide_false, wrap_i64, ↓reduceIte, Nat.reduceAdd, Nat.reduceSub, Nat.reduceMul, Nat.reduceEqDiff, Nat.reduceLeDiff, Int.reduceAdd, Int.reduceSub, Int.reduceNeg, Int.reduceLT, Int.reduceLE, Int.reduceEq, Int.reduceToNat, Nat.reduceMod]
  refine ACalls.then (clone_calls Γ l _ hl) ?_
  rintro v _ ⟨j, rfl, hv⟩
  simp (disch := omega) only [go_sem, bne_self_eq_false, beq_self_eq_true, true_and, and_true, decide_true, decide_false, wrap_i64, ↓reduceIte, Nat.reduceAdd, Nat.reduceSub, Nat.reduceMul, Nat.reduceEqDiff, Nat.reduceLeDiff, Int.reduceAdd, Int.reduceSub, Int.reduceNeg, Int.reduceLT, Int.reduceLE, Int.reduceEq, Int.reduceToNat, Nat.reduceMod]
  have hb : ∀ R : AH, (h ++ [.row [.sl (encI out) .free] 25] ++ R)[h.length]? = some (.row [.sl (encI out) .free] 25) := fun R => by simp
  rcases hv with ⟨rfl, hnil⟩ | ⟨q, c, pad, rfl, hq, hc, hp⟩
  · have h0 : l = [] := by cases l with
      | nil => rfl
      | cons a l => simp [encI] at hnil
    subst h0
    refine ACalls.det (delete0_calls Γ _ _ _ _) ?_
    simp (disch := omega) only [go_sem, bne_self_eq_false, beq_self_eq_true, true_and, and_true, decide_true, decide_false, wrap_i64, ↓reduceIte, Nat.reduceAdd, Nat.reduceSub, Nat.reduceMul, Nat.reduceEqDiff, Nat.reduceLeDiff, Int.reduceAdd, Int.reduceSub, Int.reduceNeg, Int.reduceLT, Int.reduceLE, Int.reduceEq, Int.reduceToNat, Nat.reduceMod]
    exact .inl rfl
  · have hix : (h ++ .row [.sl (encI out) .free] 25 :: j)[h.length + 1 + q]? = some (.row (encI l ++ pad) 3) := by
      rw [Nat.add_assoc, hget_add, Nat.add_comm 1, List.getElem?_cons_succ]; exact hq
    rw [encI_len]
    rw [encI_len] at hc
    simp (disch := omega) only [go_sem, bne_self_eq_false, beq_self_eq_true, true_and, and_true, decide_true, decide_false, wrap_i64, ↓reduceIte, Nat.reduceAdd, Nat.reduceSub, Nat.reduceMul, Nat.reduceEqDiff, Nat.reduceLeDiff, Int.reduceAdd, Int.reduceSub, Int.reduceNeg, Int.reduceLT, Int.reduceLE, Int.reduceEq, Int.reduceToNat, Nat.reduceMod, List.length_append, List.length_cons, List.length_nil]
    refine ACalls.then (delete_calls Γ l (fun x => decide (x ∈ out)) 78 [] [.ptr (some (h.length, 0))] (h.length + 1 + q) c pad 3 _ hl (by omega) hix hp (fun o x => ?_)) ?_
    · refine outside_calls Γ out x h.length _ (by omega) ?_
      rw [List.getElem?_set_ne (by omega)]
      simp
    rintro _ _ ⟨pad', hp', rfl, rfl⟩
    simp (disch := omega) only [go_sem, bne_self_eq_false, beq_self_eq_true, true_and, and_true, decide_true, decide_false, wrap_i64, ↓reduceIte, Nat.reduceAdd, Nat.reduceSub, Nat.reduceMul, Nat.reduceEqDiff, Nat.reduceLeDiff, Int.reduceAdd, Int.reduceSub, Int.reduceNeg, Int.reduceLT, Int.reduceLE, Int.reduceEq, Int.reduceToNat, Nat.reduceMod]
    have hqj := (List.getElem?_eq_some_iff.1 hq).1
    have hfl : (wtF l out).length ≤ l.length := List.length_filter_le _ _
    rw [show h.length + 1 + q = h.length + (q + 1) from by omega, hset_add, List.set_cons_succ]
    refine ⟨⟨_, rfl⟩, .inr ⟨q + 1, encI (wtF l out) ++ pad', 3, ?_, ?_⟩⟩
    · rw [hget_add, List.getElem?_cons_succ, List.getElem?_set_self hqj]; rfl
    · have hfo := fz_own (h.length + (q + 1)) c (wtF l out) pad' (by omega) hp'
      have hw : (l.filter fun x => !decide (x ∈ out)) = wtF l out := rfl
      rw [hw, hfo]
      simp (disch := omega) only [go_sem, bne_self_eq_false, beq_self_eq_true, true_and, and_true, decide_true, decide_false, wrap_i64, ↓reduceIte, Nat.reduceAdd, Nat.reduceSub, Nat.reduceMul, Nat.reduceEqDiff, Nat.reduceLeDiff, Int.reduceAdd, Int.reduceSub, Int.reduceNeg, Int.reduceLT, Int.reduceLE, Int.reduceEq, Int.reduceToNat, Nat.reduceMod]
end Go.Proofs.Ytopiamdfnaejeaa
