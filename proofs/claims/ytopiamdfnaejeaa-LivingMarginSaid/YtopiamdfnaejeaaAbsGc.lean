/- More of the model's operations, seen abstractly: the lesser and the greater of two, arrays compared, bytes as a string, cuts of arrays. It says nothing of any program; no conditions. -/
import Derived.Test.YtopiamdfnaejeaaAbsGb
import Derived.ChangeKeysEq
set_option linter.unusedSimpArgs false
set_option linter.unusedVariables false
namespace Go.Abs
open Go Go.RowKit

section
variable {P : Program} {Γ : Nat → Option (List AV)} {G : Gh} {h : AH} {w : World} {N : Nat} {σ : Tm}

/-! ### The lesser and the greater of two -/
def aMin (x y : AV) (K : AV → Prop) : Prop := match x, y with
  | .int k a, .int k' b => k = k' ∧ K (.int k (if b < a then b else a))
  | _, _ => False
def aMax (x y : AV) (K : AV → Prop) : Prop := match x, y with
  | .int k a, .int k' b => k = k' ∧ K (.int k (if a < b then b else a))
  | _, _ => False
theorem min_ok (hI : Inv Γ G h w) {ts : Array TypeId} {ty : TypeId} {x y : AV} {u v : Value} (hx : VR G x u) (hy : VR G y v) {K : AV → AH → Prop} (H : aMin x y fun v => K v h) : SemOK P Γ G w (Builtin.min_ ts ty #[u, v]) K := by
  unfold aMin at H
  split at H
  · obtain ⟨rfl, hk⟩ := H
    cases hx; cases hy
    exact .pure' hI (by simp [Builtin.min_, Builtin.min2] <;> rfl) (.int _ _) hk
  · exact H.elim
theorem max_ok (hI : Inv Γ G h w) {ts : Array TypeId} {ty : TypeId} {x y : AV} {u v : Value} (hx : VR G x u) (hy : VR G y v) {K : AV → AH → Prop} (H : aMax x y fun v => K v h) : SemOK P Γ G w (Builtin.max_ ts ty #[u, v]) K := by
  unfold aMax at H
  split at H
  · obtain ⟨rfl, hk⟩ := H
    cases hx; cases hy
    exact .pure' hI (by simp [Builtin.max_, Builtin.max2] <;> rfl) (.int _ _) hk
  · exact H.elim

/-! ### Arrays of integers, compared -/
/-- Arrays of integers: the integers' kind, how many. -/
def teq (P : Program) (t : TypeId) : Option (IntKind × Nat) := match P.underlying t with
  | some (.array n e) => (match P.underlying e with
    | some (.int k) => if P.plainKey e && (P.info? e).isSome && Nat.beq (P.cellsOf e) 1 && !(P.eqGuardType P.depth t) then some (k, n) else none
    | _ => none)
  | _ => none
def eqI (k : IntKind) : List AV → List AV → Option Bool
  | [], [] => some true
  | .int k1 a :: r, .int k2 b :: s => if k1 = k ∧ k2 = k then (eqI k r s).map fun t => decide (a = b) && t else none
  | _, _ => none
def aEqO (op : BinOp) (r : Option Bool) (K : AV → Prop) : Prop := match r with
  | some b => (match op with
    | .eql => K (.bool b)
    | .neq => K (.bool (!b))
    | _ => False)
  | none => False
def aEqT (d : Option (IntKind × Nat)) (op : BinOp) (xs ys : List AV) (K : AV → Prop) : Prop := match d with
  | some (k, n) => xs.length = n ∧ aEqO op (eqI k xs ys) K
  | none => False
def aBin2 (P : Program) (op : BinOp) (t : TypeId) (x y : AV) (K : AV → Prop) : Prop :=
  match x, y with
  | .agg xs, .agg ys => aEqT (teq P t) op xs ys K
  | _, _ => aBin P op t x y K

theorem eqI_get {k : IntKind} : ∀ {xs ys : List AV} {b : Bool}, eqI k xs ys = some b → ys.length = xs.length ∧ (∀ j, j < xs.length → ∃ a c, xs[j]? = some (.int k a) ∧ ys[j]? = some (.int k c)) ∧
    (b = true ↔ ∀ (j : Nat) (a c : Int), xs[j]? = some (.int k a) → ys[j]? = some (.int k c) → a = c)
  | [], [], b, h => by
    simp [eqI] at h
    subst h; simp
  | x :: r, y :: s, b, h => by
    unfold eqI at h
    split at h
    · rename_i e _; cases e
    · rename_i k1 a r' k2 c s' e1 e2
      cases e1; cases e2
      split at h
      · rename_i hk
        obtain ⟨rfl, rfl⟩ := hk
        obtain ⟨t, ht, rfl⟩ := Option.map_eq_some_iff.1 h
        obtain ⟨h1, h2, h3⟩ := eqI_get ht
        refine ⟨by simp [h1], fun j hj => ?_, ?_⟩
        · cases j with
          | zero => exact ⟨a, c, rfl, rfl⟩
          | succ j => exact h2 j (by simpa using hj)
        · rw [Bool.and_eq_true, decide_eq_true_eq, h3]
          constructor
          · rintro ⟨hac, hh⟩ j a' c' e e'
            cases j with
            | zero => simp at e e'; omega
            | succ j => exact hh j a' c' (by simpa using e) (by simpa using e')
          · intro hh
            exact ⟨hh 0 a c rfl rfl, fun j a' c' e e' => hh (j + 1) a' c' (by simpa using e) (by simpa using e')⟩
      · cases h
    · cases h
  | [], _ :: _, b, h => by simp [eqI] at h
  | _ :: _, [], b, h => by simp [eqI] at h

theorem run_eqInts {e : TypeId} {k : IntKind} (he : P.plainKey e = true) (hu : P.underlying e = some (.int k)) (hc : P.cellsOf e = 1) (d : Nat) (xs ys : Array Value) (w : World) :
    ∀ is : List Nat, (∀ i ∈ is, ∃ a b, xs[i]? = some (.int k a) ∧ ys[i]? = some (.int k b)) → ∃ r : Bool, (Op.eqItems (d + 1) e (P.cellsOf e) xs ys is).run P w = .ok r w ∧ (r = true ↔ ∀ i ∈ is, xs[i]? = ys[i]?)
  | [], _ => ⟨true, by simp [Op.eqItems], by simp⟩
  | i :: is, hi => by
    obtain ⟨a, b, h1, h2⟩ := hi i (List.mem_cons_self ..)
    obtain ⟨r, hr, hiff⟩ := run_eqInts he hu hc d xs ys w is fun j hj => hi j (List.mem_cons_of_mem _ hj)
    have p1 := run_part_plain (P := P) w he (xs := xs) (off := i * P.cellsOf e) (by rw [hc, Nat.mul_one]; exact h1)
    have p2 := run_part_plain (P := P) w he (xs := ys) (off := i * P.cellsOf e) (by rw [hc, Nat.mul_one]; exact h2)
    have p3 : (Op.equalIn (d + 1) e (.int k a) (.int k b)).run P w = .ok (a == b) w := by
      simp only [Op.equalIn, Sem.run_bind, run_underlying hu, Result.andThen_ok, if_true, Sem.run_pure]
    simp only [Op.eqItems, Sem.run_bind, p1, p2, p3, Result.andThen_ok]
    by_cases hab : a = b
    · subst hab
      refine ⟨r, by simpa using hr, ?_⟩
      rw [hiff]
      simp [h1, h2]
    · refine ⟨false, by simp [hab], ?_⟩
      simp [h1, h2, hab]

theorem bin2_ok (hI : Inv Γ G h w) {op : BinOp} {t : TypeId} {ox oy : Operand} {x y : AV} {u v : Value} (hx : VR G x u) (hy : VR G y v) {K : AV → AH → Prop} (H : aBin2 P op t x y fun v => K v h) :
    SemOK P Γ G w (do eqGuard op t ox oy u v; binOp op t u v) K := by
  unfold aBin2 at H
  split at H
  · rename_i xs ys
    unfold aEqT at H
    split at H
    · rename_i k n hd
      obtain ⟨hl, H⟩ := H
      unfold aEqO at H
      split at H
      · rename_i b hb
        obtain ⟨e1, e2, e3⟩ := eqI_get hb
        unfold teq at hd
        split at hd
        · rename_i n' e hu
          split at hd
          · rename_i k' hk
            split at hd
            · rename_i hc
              cases hd
              simp only [Bool.and_eq_true, Bool.not_eq_true'] at hc
              obtain ⟨⟨⟨c1, c2⟩, c3⟩, c4⟩ := hc
              obtain ⟨info, hinfo⟩ := Option.isSome_iff_exists.1 c2
              cases hx with
              | agg l1 v1 =>
              rename_i vx
              cases hy with
              | agg l2 v2 =>
              rename_i vy
              have hget : ∀ i, i < xs.length → ∃ a c, xs[i]? = some (.int k a) ∧ ys[i]? = some (.int k c) ∧ vx[i]? = some (.int k a) ∧ vy[i]? = some (.int k c) := fun i hi => by
                obtain ⟨a, c, q1, q2⟩ := e2 i hi
                obtain ⟨u1, p1, r1⟩ := (show VRs G xs vx from ⟨l1, v1⟩).get q1
                obtain ⟨u2, p2, r2⟩ := (show VRs G ys vy from ⟨l2, v2⟩).get q2
                cases r1; cases r2
                exact ⟨a, c, q1, q2, p1, p2⟩
              obtain ⟨r, hr, hiff⟩ := run_eqInts c1 hk (Nat.eq_of_beq_eq_true c3) 9998 vx vy w (List.range n) fun i hi => by
                obtain ⟨a, c, _, _, p1, p2⟩ := hget i (by rw [hl]; exact List.mem_range.1 hi)
                exact ⟨a, c, p1, p2⟩
              have hrb : r = b := by
                rw [Bool.eq_iff_iff, hiff, e3]
                constructor
                · intro h j a c q1 q2
                  have hj := (List.getElem?_eq_some_iff.1 q1).1
                  obtain ⟨a', c', q1', q2', p1, p2⟩ := hget j hj
                  rw [q1] at q1'; cases q1'
                  rw [q2] at q2'; cases q2'
                  have := h j (List.mem_range.2 (by omega))
                  rw [p1, p2] at this; cases this; rfl
                · intro h j hj
                  obtain ⟨a', c', q1', q2', p1, p2⟩ := hget j (by rw [hl]; exact List.mem_range.1 hj)
                  rw [p1, p2, h j a' c' q1' q2']
              subst hrb
              have he : (Op.equal t (.agg vx) (.agg vy)).run P w = .ok r w := by
                rw [equal_depth, run_equalIn_array w 9999 vx vy hu hinfo]; exact hr
              have hg : (eqGuard op t ox oy (.agg vx) (.agg vy)).run P w = .ok () w := by
                cases op <;> simp [eqGuard, c4]
              cases op <;> simp only at H <;> first
                | exact H.elim
                | exact .pure' hI (by simp only [Sem.run_bind, hg, Result.andThen_ok, binOp, he, Sem.run_pure]) (.bool _) H
            · cases hd
          · cases hd
        · cases hd
      · exact H.elim
    · exact H.elim
  · exact bin_ok hI hx hy H
theorem aBin2_det {op : BinOp} {t : TypeId} {x y : AV} {K : AV → Prop} (hB : ∀ {K : AV → Prop}, aBin P op t x y K → ∃ v, K v ∧ ∀ K' : AV → Prop, K' v → aBin P op t x y K') (H : aBin2 P op t x y K) : ∃ v, K v ∧ ∀ K' : AV → Prop, K' v → aBin2 P op t x y K' := by
  unfold aBin2 at *
  split at H
  · unfold aEqT at *
    split at H
    · obtain ⟨hl, H⟩ := H
      unfold aEqO at *
      split at H
      · cases op <;> simp only at H <;> first
          | exact H.elim
          | exact ⟨_, H, fun K' hk => ⟨hl, hk⟩⟩
      · exact H.elim
    · exact H.elim
  · exact hB H

/-! ### Bytes as a string -/
def bytesOf : List AV → Option (List UInt8)
  | [] => some []
  | .int .u8 n :: r => (bytesOf r).map fun l => UInt8.ofNat n.toNat :: l
  | _ => none
def aB2S (r : Option (List UInt8)) (K : AV → Prop) : Prop := match r with
  | some l => K (.str ⟨l.toArray⟩)
  | none => False
def tb2s (P : Program) (s t : TypeId) : Bool := match P.underlying s, P.underlying t with
  | some (.slice e), some .string => (match P.underlying e with
    | some (.int .u8) => true
    | _ => false)
  | _, _ => false
def aConv2 (P : Program) (s t : TypeId) (x : AV) (K : AV → Prop) : Prop := match x with
  | .sl rows _ => tb2s P s t = true ∧ aB2S (bytesOf rows) K
  | x => aConv P s t x K

theorem bytesOf_get : ∀ {rows : List AV} {l : List UInt8}, bytesOf rows = some l → rows.length = l.length ∧ ∀ (j : Nat) (r : AV), rows[j]? = some r → ∃ n, r = .int .u8 n ∧ l[j]? = some (UInt8.ofNat n.toNat)
  | [], l, h => by
    simp [bytesOf] at h
    subst h; simp
  | x :: r, l, h => by
    unfold bytesOf at h
    split at h
    · rename_i e; cases e
    · rename_i n r' e
      cases e
      obtain ⟨l', hl, rfl⟩ := Option.map_eq_some_iff.1 h
      obtain ⟨h1, h2⟩ := bytesOf_get hl
      refine ⟨by simp [h1], fun j q e => ?_⟩
      cases j with
      | zero => simp at e; subst e; exact ⟨n, rfl, rfl⟩
      | succ j => exact h2 j q (by simpa using e)
    · cases h

theorem run_pushes : ∀ (vs : List Value) (l : List UInt8) (s : ByteArray) (w : World), vs.length = l.length → (∀ (j : Nat) (v : Value) (b : UInt8), vs[j]? = some v → l[j]? = some b → ∃ n : Int, v = .int .u8 n ∧ b = UInt8.ofNat n.toNat) →
    (forIn vs s fun (c : Value) (s : ByteArray) => (match c with
      | .int .u8 n => pure (ForInStep.yield (s.push (UInt8.ofNat n.toNat)))
      | _ => do
        let r ← (stuck "bytesToString: byte expected" : Sem PUnit)
        pure (ForInStep.yield s)) : Sem ByteArray).run P w = .ok ⟨s.data ++ l.toArray⟩ w
  | [], [], s, w, _, _ => by simp
  | v :: vs, b :: l, s, w, hl, hv => by
    obtain ⟨n, rfl, rfl⟩ := hv 0 v b rfl rfl
    have ih := run_pushes vs l (s.push (UInt8.ofNat n.toNat)) w (by simpa using hl) (fun j v b e e' => hv (j + 1) v b (by simpa using e) (by simpa using e'))
    simp only [List.forIn_cons, Sem.run_bind, Sem.run_pure, Result.andThen_ok]
    rw [ih]
    congr 1
    simp [ByteArray.push]
  | [], _ :: _, _, _, h, _ => by simp at h
  | _ :: _, [], _, _, h, _ => by simp at h

theorem conv2_ok (hI : Inv Γ G h w) {src dst : TypeId} {x : AV} {u : Value} (hx : VR G x u) {K : AV → AH → Prop} (H : aConv2 P src dst x fun v => K v h) : SemOK P Γ G w (convert src dst u) K := by
  unfold aConv2 at H
  split at H
  · rename_i rows own
    obtain ⟨ht, H⟩ := H
    unfold aB2S at H
    split at H
    · rename_i l hl
      obtain ⟨h1, h2⟩ := bytesOf_get hl
      unfold tb2s at ht
      split at ht
      · rename_i e hs hd
        split at ht
        · rename_i he
          have hx0 := hx
          cases hx with
          | sl vals hcap hnil hsz hF hv hown =>
            rename_i a cap sz
            have hrow : ∀ r ∈ rows, r.cells.length = 1 := fun r hr => by
              obtain ⟨j, hj⟩ := List.getElem?_of_mem hr
              obtain ⟨n, rfl, _⟩ := h2 j r hj
              rfl
            obtain ⟨olds, o1, o2, o3⟩ := hx0.flatCells (P := P) hI hrow
            have hflat : flat rows = rows := by
              have : ∀ (l : List AV), (∀ r ∈ l, ∃ n, r = AV.int .u8 n) → flat l = l := fun l => by
                induction l with
                | nil => intro _; rfl
                | cons r l ih =>
                  intro hr
                  obtain ⟨n, rfl⟩ := hr r (List.mem_cons_self ..)
                  simp only [flat, List.flatMap_cons, AV.cells] at ih ⊢
                  rw [ih fun r h => hr r (List.mem_cons_of_mem _ h)]; rfl
              exact this rows fun r hr => by
                obtain ⟨j, hj⟩ := List.getElem?_of_mem hr
                obtain ⟨n, hn, _⟩ := h2 j r hj
                exact ⟨n, hn⟩
            have hbyte : ∀ (j : Nat) (v : Value) (b : UInt8), olds[j]? = some v → l[j]? = some b → ∃ n : Int, v = .int .u8 n ∧ b = UInt8.ofNat n.toNat := fun j v b e e' => by
              have hj : j < rows.length := by have := (List.getElem?_eq_some_iff.1 e').1; omega
              obtain ⟨n, hn, hb⟩ := h2 j _ (List.getElem?_eq_getElem hj)
              obtain ⟨v', q1, q2⟩ := o2.get (j := j) (c := .int .u8 n) (by rw [hflat, List.getElem?_eq_getElem hj, hn])
              have : olds[j]? = some v' := by simpa using q1
              rw [e] at this; cases this
              rw [e'] at hb
              exact ⟨n, q2.int_inv, Option.some.inj hb⟩
            refine .pure' hI (u := .string ⟨l.toArray⟩) ?_ (.str _) H
            have o4 := o3 w rfl
            cases a with
            | none =>
              have hz : rows.length = 0 := by have := hnil rfl; omega
              have : l = [] := List.length_eq_zero_iff.1 (by omega)
              subst this
              simp [convert, run_underlying hs, run_underlying hd, run_underlying he, Conv.bytesToString]
              rfl
            | some ad =>
              simp only [Builtin.firstCells, Nat.mul_one] at o4
              have hp := run_pushes (P := P) olds l ByteArray.empty w (by rw [o1, Nat.mul_one, h1]) hbyte
              simp only [convert, Sem.run_bind, run_underlying hs, run_underlying hd, run_underlying he, Result.andThen_ok, Conv.bytesToString, o4]
              rw [List.forIn_toArray]
              erw [hp]
              simp [ByteArray.empty, ByteArray.emptyWithCapacity]
              rfl
        · cases ht
      · cases ht
    · exact H.elim
  · exact conv_ok hI hx H
theorem aConv2_det {s t : TypeId} {x : AV} {K : AV → Prop} (hB : ∀ {K : AV → Prop}, aConv P s t x K → ∃ v, K v ∧ ∀ K' : AV → Prop, K' v → aConv P s t x K') (H : aConv2 P s t x K) : ∃ v, K v ∧ ∀ K' : AV → Prop, K' v → aConv2 P s t x K' := by
  unfold aConv2 at *
  split at H
  · obtain ⟨ht, H⟩ := H
    unfold aB2S at *
    split at H
    · exact ⟨_, H, fun K' hk => ⟨ht, hk⟩⟩
    · exact H.elim
  · exact hB H

/-! ### Cuts of arrays -/
/-- An array's length, its elements' cells. -/
def tarr (P : Program) (t : TypeId) : Option (Nat × Nat) := match P.underlying t with
  | some (.array n e) => (tsz P e).map fun s => (n, s)
  | _ => none
def aCutA (d : Option (Nat × Nat)) (x : AV) (K : AV → Prop) : Prop := match d, x with
  | some (n, s), .ptr (some (i, o)) => K (.ms i o n n s)
  | some (n, s), .eptr cs => cs.length = n ∧ s = 1 ∧ (∀ c ∈ cs, c.one = true) ∧ K (.sl cs .free)
  | _, _ => False
/-- A whole array as a slice; or any other cut. -/
def aSlice2 (P : Program) (t : TypeId) (x : AV) (lo hi mx : Option AV) (K : AV → Prop) : Prop := match x, lo, hi, mx with
  | .ptr a, none, none, none => aCutA (tarr P t) (.ptr a) K
  | .eptr cs, none, none, none => aCutA (tarr P t) (.eptr cs) K
  | x, lo, hi, mx => aSlice P t x lo hi mx K

theorem one_cells {c : AV} (h : c.one = true) : c.cells = [c] := by cases c <;> first | rfl | simp [AV.one] at h

theorem cutA_ok (hI : Inv Γ G h w) {t : TypeId} {x : AV} {v : Value} (hx : VR G x v) {K : AV → AH → Prop} (H : aCutA (tarr P t) x fun v => K v h) : SemOK P Γ G w (Instr.sliceAt t v none none none) K := by
  unfold aCutA at H
  split at H
  · rename_i n s i o hd
    unfold tarr at hd
    split at hd
    · rename_i n' e hu
      obtain ⟨s', hs, e1⟩ := Option.map_eq_some_iff.1 hd
      cases e1
      cases hx with
      | ptr hb =>
        refine .pure' hI (u := .slice (some ⟨_, o, none⟩) n n) ?_ (.ms hb) H
        simp [Instr.sliceAt, run_underlying hu, Instr.sureAddr, Instr.sliceBounds, run_sizeOf' hs, Addr.add]
    · cases hd
  · rename_i n s cs hd
    obtain ⟨hl, rfl, hone, H⟩ := H
    unfold tarr at hd
    split at hd
    · rename_i n' e hu
      obtain ⟨s', hs, e1⟩ := Option.map_eq_some_iff.1 hd
      cases e1
      cases hx with
      | eptr vals hF hv =>
        rename_i b o
        refine .pure' hI (u := .slice (some ⟨b, o, none⟩) n n) ?_ ?_ H
        · simp [Instr.sliceAt, run_underlying hu, Instr.sureAddr, Instr.sliceBounds, run_sizeOf' hs, Addr.add]
        · rw [← hl]
          refine .sl (sz := 1) (fun k _ => vals k) (Nat.le_refl _) (fun e => by cases e) (fun k r hr => by rw [one_cells (hone r (List.mem_of_getElem? hr))]; rfl) (fun k r j c hr hc => ?_) (fun k r j c hr hc => ?_) trivial
          · rw [one_cells (hone r (List.mem_of_getElem? hr))] at hc
            cases j with
            | zero => simp at hc; subst hc; exact ⟨b, o, rfl, by rw [Nat.mul_one, Nat.add_zero]; exact hF k _ hr⟩
            | succ j => simp at hc
          · rw [one_cells (hone r (List.mem_of_getElem? hr))] at hc
            cases j with
            | zero => simp at hc; subst hc; exact hv k _ hr
            | succ j => simp at hc
    · cases hd
  · exact H.elim
theorem slice2_ok (hI : Inv Γ G h w) {t : TypeId} {x : AV} {v : Value} {lo hi mx : Option AV} {ul uh um : Option Value} (hx : VR G x v) (h1 : VRo G lo ul) (h2 : VRo G hi uh) (h3 : VRo G mx um) {K : AV → AH → Prop}
    (H : aSlice2 P t x lo hi mx fun v => K v h) : SemOK P Γ G w (Instr.sliceAt t v ul uh um) K := by
  unfold aSlice2 at H
  split at H
  · cases ul with
    | some _ => exact h1.elim
    | none => cases uh with
      | some _ => exact h2.elim
      | none => cases um with
        | some _ => exact h3.elim
        | none => exact cutA_ok hI hx H
  · cases ul with
    | some _ => exact h1.elim
    | none => cases uh with
      | some _ => exact h2.elim
      | none => cases um with
        | some _ => exact h3.elim
        | none => exact cutA_ok hI hx H
  · exact slice_ok hI hx h1 h2 h3 H
theorem aSlice2_det {t : TypeId} {x : AV} {lo hi mx : Option AV} {K : AV → Prop} (hB : ∀ {K : AV → Prop}, aSlice P t x lo hi mx K → ∃ v, K v ∧ ∀ K' : AV → Prop, K' v → aSlice P t x lo hi mx K') (H : aSlice2 P t x lo hi mx K) :
    ∃ v, K v ∧ ∀ K' : AV → Prop, K' v → aSlice2 P t x lo hi mx K' := by
  have hA : ∀ {y : AV} {K : AV → Prop}, aCutA (tarr P t) y K → ∃ v, K v ∧ ∀ K' : AV → Prop, K' v → aCutA (tarr P t) y K' := fun {y K} H => by
    unfold aCutA at *
    split at H
    · exact ⟨_, H, fun K' hk => hk⟩
    · obtain ⟨a, b, c, H⟩ := H
      exact ⟨_, H, fun K' hk => ⟨a, b, c, hk⟩⟩
    · exact H.elim
  unfold aSlice2 at *
  split at H
  · exact hA H
  · exact hA H
  · exact hB H
theorem aMin_det {x y : AV} {K : AV → Prop} (H : aMin x y K) : ∃ v, K v ∧ ∀ K' : AV → Prop, K' v → aMin x y K' := by
  unfold aMin at *
  split at H
  · exact ⟨_, H.2, fun K' hk => ⟨H.1, hk⟩⟩
  · exact H.elim
theorem aMax_det {x y : AV} {K : AV → Prop} (H : aMax x y K) : ∃ v, K v ∧ ∀ K' : AV → Prop, K' v → aMax x y K' := by
  unfold aMax at *
  split at H
  · exact ⟨_, H.2, fun K' hk => ⟨H.1, hk⟩⟩
  · exact H.elim
end
end Go.Abs
