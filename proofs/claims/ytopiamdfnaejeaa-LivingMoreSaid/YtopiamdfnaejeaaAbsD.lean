/- What the model's operations on numbers, strings, slices and aggregates do, seen abstractly. It says nothing of any program; no conditions. -/
import Derived.Test.YtopiamdfnaejeaaAbsC
set_option linter.unusedSimpArgs false
set_option linter.unusedVariables false
namespace Go.Abs
open Go Go.RowKit

section
variable {P : Program} {Γ : Nat → Option (List AV)} {G : Gh} {h : AH} {w : World} {N : Nat} {σ : Tm}

theorem SemOK.pure' (hI : Inv Γ G h w) {s : Sem Value} {u : Value} {av : AV} {K : AV → AH → Prop} (hr : s.run P w = .ok u w) (hv : VR G av u) (hk : K av h) : SemOK P Γ G w s K :=
  ⟨u, w, G, av, h, hr, Gh.le.refl G, hI, hv, hk⟩

/-- Bits. -/
def bitsOp (op : BinOp) (k : IntKind) (x y : Int) : Int :=
  let a := BitVec.ofInt k.bits x
  let b := BitVec.ofInt k.bits y
  match op with
  | .and => k.wrap (a &&& b).toNat
  | .or => k.wrap (a ||| b).toNat
  | .xor => k.wrap (a ^^^ b).toNat
  | .andNot => k.wrap (a &&& ~~~b).toNat
  | _ => 0

/-- Two integers of one kind, or a shift. -/
def aInt (op : BinOp) (k : IntKind) (a : Int) (k' : IntKind) (b : Int) (K : AV → Prop) : Prop :=
  match op with
  | .shl => 0 ≤ b ∧ K (.int k (k.wrap (a * 2 ^ (min b.toNat k.bits))))
  | .shr => 0 ≤ b ∧ K (.int k (a.fdiv (2 ^ (min b.toNat k.bits))))
  | .add => k = k' ∧ K (.int k (k.wrap (a + b)))
  | .sub => k = k' ∧ K (.int k (k.wrap (a - b)))
  | .mul => k = k' ∧ K (.int k (k.wrap (a * b)))
  | .quo => k = k' ∧ b ≠ 0 ∧ K (.int k (k.wrap (a.tdiv b)))
  | .rem => k = k' ∧ b ≠ 0 ∧ K (.int k (a.tmod b))
  | .eql => k = k' ∧ K (.bool (decide (a = b)))
  | .neq => k = k' ∧ K (.bool (decide (a ≠ b)))
  | .lss => k = k' ∧ K (.bool (decide (a < b)))
  | .leq => k = k' ∧ K (.bool (decide (a ≤ b)))
  | .gtr => k = k' ∧ K (.bool (decide (b < a)))
  | .geq => k = k' ∧ K (.bool (decide (b ≤ a)))
  | op => k = k' ∧ K (.int k (bitsOp op k a b))

/-- Two strings. -/
def aStr (op : BinOp) (a b : ByteArray) (K : AV → Prop) : Prop :=
  match op with
  | .add => a.size + b.size ≤ 9223372036854775807 ∧ K (.str (a ++ b))
  | .eql => K (.bool (a.toList == b.toList))
  | .neq => K (.bool (!(a.toList == b.toList)))
  | .lss => K (.bool (Op.bytesLess a.toList b.toList))
  | .leq => K (.bool (Op.bytesLess a.toList b.toList || a.toList == b.toList))
  | .gtr => K (.bool (!(Op.bytesLess a.toList b.toList || a.toList == b.toList)))
  | .geq => K (.bool (!(Op.bytesLess a.toList b.toList)))
  | _ => False

/-- Cells of integers, bools and strings: are they one and the same? -/
def aEqC : List AV → List AV → Option Bool
  | [], [] => some true
  | .int _ a :: r, .int _ b :: s => (aEqC r s).map fun t => decide (a = b) && t
  | .bool a :: r, .bool b :: s => (aEqC r s).map fun t => a == b && t
  | _, _ => none

def aBin (P : Program) (op : BinOp) (t : TypeId) (x y : AV) (K : AV → Prop) : Prop :=
  match x, y with
  | .int k a, .int k' b => aInt op k a k' b K
  | .str a, .str b => aStr op a b K
  | .bool a, .bool b => P.underlying t = some .bool ∧ (match op with
      | .eql => K (.bool (a == b))
      | .neq => K (.bool (!(a == b)))
      | _ => False)
  | _, _ => False

theorem run_intOp (op : BinOp) (k : IntKind) (a : Int) (k' : IntKind) (b : Int) (t : TypeId) {K : AV → Prop} (H : aInt op k a k' b K) : ∃ u av, (binOp op t (.int k a) (.int k' b)).run P w = .ok u w ∧ VR G av u ∧ K av := by
  cases op <;> simp only [aInt] at H
  case shl => obtain ⟨h0, hk⟩ := H; exact ⟨_, _, by simp [binOp, Op.shift, show ¬ b < 0 by omega] <;> rfl, .int _ _, hk⟩
  case shr => obtain ⟨h0, hk⟩ := H; exact ⟨_, _, by simp [binOp, Op.shift, show ¬ b < 0 by omega] <;> rfl, .int _ _, hk⟩
  case add => obtain ⟨rfl, hk⟩ := H; exact ⟨_, _, by simp [binOp, Op.intArith] <;> rfl, .int _ _, hk⟩
  case sub => obtain ⟨rfl, hk⟩ := H; exact ⟨_, _, by simp [binOp, Op.intArith] <;> rfl, .int _ _, hk⟩
  case mul => obtain ⟨rfl, hk⟩ := H; exact ⟨_, _, by simp [binOp, Op.intArith] <;> rfl, .int _ _, hk⟩
  case quo => obtain ⟨rfl, h0, hk⟩ := H; exact ⟨_, _, by simp [binOp, Op.intDiv, h0] <;> rfl, .int _ _, hk⟩
  case rem => obtain ⟨rfl, h0, hk⟩ := H; exact ⟨_, _, by simp [binOp, Op.intDiv, h0] <;> rfl, .int _ _, hk⟩
  case eql => obtain ⟨rfl, hk⟩ := H; exact ⟨_, _, by simp only [binOp, Op.intCmp, ne_eq, not_true_eq_false, if_false, Sem.run_pure] <;> rfl, .bool _, hk⟩
  case neq => obtain ⟨rfl, hk⟩ := H; exact ⟨_, _, by simp only [binOp, Op.intCmp, ne_eq, not_true_eq_false, if_false, Sem.run_pure] <;> rfl, by rw [show (a != b) = decide (a ≠ b) from by simp [bne, BEq.beq]]; exact .bool _, hk⟩
  case lss => obtain ⟨rfl, hk⟩ := H; exact ⟨_, _, by simp only [binOp, Op.intCmp, ne_eq, not_true_eq_false, if_false, Sem.run_pure] <;> rfl, .bool _, hk⟩
  case leq => obtain ⟨rfl, hk⟩ := H; exact ⟨_, _, by simp only [binOp, Op.intCmp, ne_eq, not_true_eq_false, if_false, Sem.run_pure] <;> rfl, .bool _, hk⟩
  case gtr => obtain ⟨rfl, hk⟩ := H; exact ⟨_, _, by simp only [binOp, Op.intCmp, ne_eq, not_true_eq_false, if_false, Sem.run_pure] <;> rfl, .bool _, hk⟩
  case geq => obtain ⟨rfl, hk⟩ := H; exact ⟨_, _, by simp only [binOp, Op.intCmp, ne_eq, not_true_eq_false, if_false, Sem.run_pure] <;> rfl, .bool _, hk⟩
  case and => obtain ⟨rfl, hk⟩ := H; exact ⟨_, _, by simp only [binOp, Op.intBits, ne_eq, not_true_eq_false, if_false, Sem.run_pure] <;> rfl, .int _ _, hk⟩
  case or => obtain ⟨rfl, hk⟩ := H; exact ⟨_, _, by simp only [binOp, Op.intBits, ne_eq, not_true_eq_false, if_false, Sem.run_pure] <;> rfl, .int _ _, hk⟩
  case xor => obtain ⟨rfl, hk⟩ := H; exact ⟨_, _, by simp only [binOp, Op.intBits, ne_eq, not_true_eq_false, if_false, Sem.run_pure] <;> rfl, .int _ _, hk⟩
  case andNot => obtain ⟨rfl, hk⟩ := H; exact ⟨_, _, by simp only [binOp, Op.intBits, ne_eq, not_true_eq_false, if_false, Sem.run_pure] <;> rfl, .int _ _, hk⟩

theorem run_strOp (op : BinOp) (a b : ByteArray) (t : TypeId) {K : AV → Prop} (H : aStr op a b K) : ∃ u av, (binOp op t (.string a) (.string b)).run P w = .ok u w ∧ VR G av u ∧ K av := by
  cases op <;> simp only [aStr] at H
  case add =>
    obtain ⟨h0, hk⟩ := H
    have : ¬ (((a.size + b.size : Nat) : Int) > IntKind.i64.max) := by
      have : IntKind.i64.max = 9223372036854775807 := by decide
      rw [this]; omega
    refine ⟨.string (a ++ b), _, ?_, .str _, hk⟩
    simp only [binOp, Op.stringOp]
    rw [if_neg this]; rfl
  all_goals first
    | exact H.elim
    | exact ⟨_, _, by simp only [binOp, Op.stringOp, Sem.run_pure] <;> rfl, .bool _, H⟩

theorem eqGuard_int {op : BinOp} {t : TypeId} {x y : Operand} {k k' : IntKind} {a b : Int} (w : World) : (eqGuard op t x y (.int k a) (.int k' b)).run P w = .ok () w := by
  cases op <;> simp [eqGuard]
theorem eqGuard_str {op : BinOp} {t : TypeId} {x y : Operand} {a b : ByteArray} (w : World) : (eqGuard op t x y (.string a) (.string b)).run P w = .ok () w := by
  cases op <;> simp [eqGuard]
theorem eqGuard_bool {op : BinOp} {t : TypeId} {x y : Operand} {a b : Bool} (w : World) : (eqGuard op t x y (.bool a) (.bool b)).run P w = .ok () w := by
  cases op <;> simp [eqGuard]
theorem equal_depth (t : TypeId) (x y : Value) : Op.equal t x y = Op.equalIn (9999 + 1) t x y := by unfold Op.equal; rfl
theorem equalIn_bool (d : Nat) {t : TypeId} {a b : Bool} (ht : P.underlying t = some .bool) (w : World) : (Op.equalIn (d + 1) t (.bool a) (.bool b)).run P w = .ok (a == b) w := by
  simp only [Op.equalIn, Sem.run_bind, run_underlying ht, Result.andThen_ok, Sem.run_pure]
theorem equal_bool {t : TypeId} {a b : Bool} (ht : P.underlying t = some .bool) (w : World) : (Op.equal t (.bool a) (.bool b)).run P w = .ok (a == b) w := by
  rw [equal_depth]; exact equalIn_bool 9999 ht w

theorem bin_ok (hI : Inv Γ G h w) {op : BinOp} {t : TypeId} {ox oy : Operand} {x y : AV} {u v : Value} (hx : VR G x u) (hy : VR G y v) {K : AV → AH → Prop} (H : aBin P op t x y fun v => K v h) :
    SemOK P Γ G w (do eqGuard op t ox oy u v; binOp op t u v) K := by
  unfold aBin at H
  split at H
  · cases hx; cases hy
    obtain ⟨r, av, h1, h2, h3⟩ := run_intOp (P := P) (w := w) (G := G) op _ _ _ _ t H
    exact .pure' hI (by simp only [Sem.run_bind, eqGuard_int, Result.andThen_ok, h1]) h2 h3
  · cases hx; cases hy
    obtain ⟨r, av, h1, h2, h3⟩ := run_strOp (P := P) (w := w) (G := G) op _ _ t H
    exact .pure' hI (by simp only [Sem.run_bind, eqGuard_str, Result.andThen_ok, h1]) h2 h3
  · cases hx; cases hy
    rename_i a b
    obtain ⟨ht, H⟩ := H
    have he := equal_bool (a := a) (b := b) ht w
    cases op <;> simp only at H <;> first
      | exact H.elim
      | exact .pure' hI (by simp only [Sem.run_bind, eqGuard_bool, Result.andThen_ok, binOp, he, Sem.run_pure]) (.bool _) H
  · exact H.elim

def aUn (op : UnOp) (x : AV) (K : AV → Prop) : Prop :=
  match op, x with
  | .not, .bool b => K (.bool (!b))
  | .neg, .int k n => K (.int k (k.wrap (0 - n)))
  | .xor, .int k n => K (.int k (bitsOp .xor k (if k.signed then -1 else k.max) n))
  | _, _ => False

theorem un_ok (hI : Inv Γ G h w) {op : UnOp} {x : AV} {u : Value} (hx : VR G x u) {K : AV → AH → Prop} (H : aUn op x fun v => K v h) : SemOK P Γ G w (Op.unary op u) K := by
  unfold aUn at H
  split at H
  · cases hx; exact .pure' hI (by simp [Op.unary] <;> rfl) (.bool _) H
  · cases hx; exact .pure' hI (by simp [Op.unary, Op.intArith] <;> rfl) (.int _ _) H
  · cases hx; exact .pure' hI (by simp only [Op.unary, Op.intBits, Sem.run_pure] <;> rfl) (.int _ _) H
  · exact H.elim

def aConv (P : Program) (src dst : TypeId) (x : AV) (K : AV → Prop) : Prop :=
  match P.underlying src, P.underlying dst, x with
  | some _, some (.int k), .int _ n => K (.int k (k.wrap n))
  | some _, some .string, .str s => K (.str s)
  | _, _, _ => False

theorem conv_ok (hI : Inv Γ G h w) {src dst : TypeId} {x : AV} {u : Value} (hx : VR G x u) {K : AV → AH → Prop} (H : aConv P src dst x fun v => K v h) : SemOK P Γ G w (convert src dst u) K := by
  unfold aConv at H
  split at H
  · rename_i d k _ n h1 h2
    cases hx; exact .pure' hI (by simp [convert, run_underlying h1, run_underlying h2, Conv.intToInt] <;> rfl) (.int _ _) H
  · rename_i d s h1 h2
    cases hx; exact .pure' hI (by simp [convert, run_underlying h1, run_underlying h2] <;> rfl) (.str _) H
  · exact H.elim

def aExtract (x : AV) (i : Nat) (K : AV → Prop) : Prop :=
  match x with
  | .tuple vs => match vs[i]? with
    | some v => K v
    | none => False
  | _ => False

theorem extract_ok (hI : Inv Γ G h w) {x : AV} {u : Value} {i : Nat} (hx : VR G x u) {K : AV → AH → Prop} (H : aExtract x i fun v => K v h) : SemOK P Γ G w (Instr.extract u i) K := by
  unfold aExtract at H
  split at H
  · split at H
    · rename_i v hv
      cases hx with
      | tuple hl hvs =>
        obtain ⟨y, h1, h2⟩ := VRs.get ⟨hl, hvs⟩ hv
        exact .pure' hI (by simp [Instr.extract, h1] <;> rfl) h2 H
    · exact H.elim
  · exact H.elim

/-- Filling the places of a struct or an array. -/
def aFill (place : Nat → Option (Nat × Nat)) (cells : List AV) : List (Nat × AV) → (List AV → Prop) → Prop
  | [], k => k cells
  | (i, x) :: r, k => match place i with
    | none => False
    | some (o, n) => x.cells.length = n ∧ (x.one = true ∨ ∃ cs, x = .agg cs) ∧ o + n ≤ cells.length ∧ aFill place (splice cells o x.cells) r k

theorem foldl_set (xs : List Value) : ∀ (k : Nat) (cur : Array Value) (o : Nat), o + k + xs.length ≤ cur.size →
    (xs.zipIdx k).foldl (fun (cs : Array Value) (p : Value × Nat) => cs.setIfInBounds (o + p.2) p.1) cur = (cur.toList.take (o + k) ++ xs ++ cur.toList.drop (o + k + xs.length)).toArray := by
  induction xs with
  | nil => intro k cur o _; simp
  | cons x xs ih =>
    intro k cur o hl
    simp only [List.length_cons] at hl
    rw [List.zipIdx_cons, List.foldl_cons, ih (k + 1) _ o (by simp; omega)]
    apply Array.ext'
    have := list_seg_step cur.toList (o + k) x xs (by simp; omega)
    simpa [Array.toList_setIfInBounds, Nat.add_assoc] using this

theorem fill_ok {place : Nat → Option (Nat × Nat)} : ∀ (parts : List (Nat × AV)) (vs : List (Nat × Value)) (cells : List AV) (vals : Array Value), VRs G cells vals →
    parts.length = vs.length → (∀ (j : Nat) (p : Nat × AV) (q : Nat × Value), parts[j]? = some p → vs[j]? = some q → p.1 = q.1 ∧ VR G p.2 q.2) → ∀ {k : List AV → Prop}, aFill place cells parts k →
    ∃ out vals', Instr.fill place vals vs = some vals' ∧ VRs G out vals' ∧ k out := by
  intro parts
  induction parts with
  | nil =>
    intro vs cells vals hv hl _ k H
    cases vs with
    | nil => exact ⟨cells, vals, rfl, hv, H⟩
    | cons _ _ => simp at hl
  | cons p r ih =>
    intro vs cells vals hv hl hp k H
    cases vs with
    | nil => simp at hl
    | cons q s =>
      obtain ⟨i, x⟩ := p
      obtain ⟨i', v⟩ := q
      obtain ⟨e, hxv⟩ := hp 0 _ _ rfl rfl
      simp only at e hxv
      subst e
      unfold aFill at H
      split at H
      · exact H.elim
      · rename_i o n hpl
        obtain ⟨h1, h2, h3, H⟩ := H
        have hc := hxv.cells h2
        have hcs : v.cells.size = n := by rw [← hc.1]; exact h1
        have hvs := hv.splice (o := o) hc (by omega)
        obtain ⟨out, vals', f1, f2, f3⟩ := ih s _ _ hvs (by simpa using hl) (fun j p q e1 e2 => hp (j + 1) p q e1 e2) H
        refine ⟨out, vals', ?_, f2, f3⟩
        have hfold : (v.cells.zipIdx.foldl (fun cs (p : Value × Nat) => cs.setIfInBounds (o + p.2) p.1) vals) = (vals.toList.take o ++ v.cells.toList ++ vals.toList.drop (o + v.cells.toList.length)).toArray := by
          rw [← Array.foldl_toList, Array.toList_zipIdx]
          have := foldl_set v.cells.toList 0 vals o (by have := hv.1; simp; omega)
          simpa using this
        simp only [Instr.fill, hpl, hcs]
        rw [if_neg (by have := hv.1; simp; omega)]
        rw [show (fun (cs : Array Value) (x : Value × Nat) => match x with | (c, j) => cs.setIfInBounds (o + j) c) = (fun cs (p : Value × Nat) => cs.setIfInBounds (o + p.2) p.1) from rfl, hfold]
        exact f1

/-- The parts of a literal. -/
def evParts (Γ : Nat → Option (List AV)) (σ : Tm) (parts : Array (Nat × Operand)) : List (Nat × AV) := parts.toList.map fun (i, x) => (i, ev Γ σ x)

def aPlaces (P : Program) (fields : List Field) : Option (List (Nat × Nat)) := fields.mapM fun f => (tsz P f.type).map fun n => (f.offset, n)

def aBuild (P : Program) (t : TypeId) (parts : List (Nat × AV)) (K : AV → Prop) : Prop :=
  match P.underlying t, tzero P t with
  | some (.struct fields), some z => (match aPlaces P fields.toList with
    | some pl => aFill (fun i => pl[i]?) (z.cells.toList.map ofV1) parts fun cs => K (.agg cs)
    | none => False)
  | some (.array _ e), some z => (match tsz P e with
    | some n => aFill (fun i => some (i * n, n)) (z.cells.toList.map ofV1) parts fun cs => K (.agg cs)
    | none => False)
  | _, _ => False

theorem mapM_places {fields : List Field} : ∀ {pl : List (Nat × Nat)}, aPlaces P fields = some pl → ∀ w, (fields.mapM (fun f => do pure (f.offset, ← sizeOf f.type) : Field → Sem (Nat × Nat))).run P w = .ok pl w := by
  induction fields with
  | nil => intro pl e w; simp [aPlaces] at e; subst e; rfl
  | cons f r ih =>
    intro pl e w
    simp only [aPlaces, List.mapM_cons, Option.bind_eq_bind, Option.bind_eq_some_iff, Option.map_eq_some_iff, Option.pure_def, Option.some.injEq] at e
    obtain ⟨a, ⟨n, hn, rfl⟩, pl', hpl, rfl⟩ := e
    simp only [List.mapM_cons, Sem.run_bind, run_sizeOf' hn, Result.andThen_ok, Sem.run_pure, ih hpl w]

theorem build_ok (hI : Inv Γ G h w) {t : TypeId} {parts : Array (Nat × Operand)} {a : Act} (ht : TR N G σ a.tmps) {K : AV → AH → Prop} (H : aBuild P t (evParts Γ σ parts) fun v => K v h) :
    SemOK P Γ G w (Instr.build t (parts.map fun (i, x) => (i, a.eval x))) K := by
  have hlen : (evParts Γ σ parts).length = (parts.map fun (i, x) => (i, a.eval x)).toList.length := by simp [evParts]
  have hrel : ∀ (j : Nat) (p : Nat × AV) (q : Nat × Value), (evParts Γ σ parts)[j]? = some p → (parts.map fun (i, x) => (i, a.eval x)).toList[j]? = some q → p.1 = q.1 ∧ VR G p.2 q.2 := fun j p q e1 e2 => by
    simp only [evParts, List.getElem?_map, Option.map_eq_some_iff, Array.toList_map] at e1 e2
    obtain ⟨⟨i, x⟩, h1, rfl⟩ := e1
    obtain ⟨⟨i', x'⟩, h2, rfl⟩ := e2
    rw [h1] at h2; cases h2
    exact ⟨rfl, ev_VR hI ht x⟩
  unfold aBuild at H
  split at H
  · rename_i fields z hd hz
    split at H
    · rename_i pl hpl
      obtain ⟨out, vals', f1, f2, f3⟩ := fill_ok (G := G) (evParts Γ σ parts) (parts.map fun (i, x) => (i, a.eval x)).toList _ _ (ofV1s_VR G z.cells) hlen hrel H
      have hm : (fields.mapM (fun f => do pure (f.offset, ← sizeOf f.type) : Field → Sem (Nat × Nat))).run P w = .ok pl.toArray w := by
        rw [Array.mapM_eq_mapM_toList, Sem.run_map, mapM_places hpl w]; rfl
      refine .pure' hI (u := .agg vals') ?_ (.agg f2.1 f2.2) f3
      simp only [Instr.build, Sem.run_bind, run_zero' hz, Result.andThen_ok, run_underlying hd, hm, List.getElem?_toArray, f1, Sem.run_pure]
    · exact H.elim
  · rename_i len e z hd hz
    split at H
    · rename_i n hn
      obtain ⟨out, vals', f1, f2, f3⟩ := fill_ok (G := G) (evParts Γ σ parts) (parts.map fun (i, x) => (i, a.eval x)).toList _ _ (ofV1s_VR G z.cells) hlen hrel H
      refine .pure' hI (u := .agg vals') ?_ (.agg f2.1 f2.2) f3
      simp only [Instr.build, Sem.run_bind, run_zero' hz, Result.andThen_ok, run_underlying hd, run_sizeOf' hn, f1, Sem.run_pure]
    · exact H.elim
  · exact H.elim

end
end Go.Abs
