/- An abstract view of the model's memory: values whose slices are lists, own variables and maps as a small heap, and what such a view says of a real world. It says nothing of any program; no conditions. -/
import Derived.WalkKit
import Derived.RangeFuncNested
import Derived.RangeFuncLeaves
import Derived.OrdersIn
import Derived.LoopNIn
set_option linter.unusedSimpArgs false
set_option linter.unusedVariables false
namespace Go.Abs
open Go Go.RowKit

/-- Who may append in place to a slice: nobody knows (free); its length is its capacity (full); whoever holds the arena's newest version. -/
inductive Own where
  | free | full | arena (i : Nat)

/-- Abstract values. -/
inductive AV where
  | top
  | int (k : IntKind) (n : Int)
  | bool (b : Bool)
  | str (s : ByteArray)
  | ptr (p : Option (Nat × Nat))
  | eptr (cells : List AV)
  | sl (rows : List AV) (own : Own)
  | ms (i off len cap sz : Nat)
  | map (r : Option Nat)
  | func (fn : FuncId) (first captured : List AV)
  | yield (l : Nat)
  | nilFunc
  | iface (t : TypeId) (v : AV)
  | nilIface
  | agg (cells : List AV)
  | tuple (vs : List AV)

/-- The cells that a value fills. -/
def AV.cells : AV → List AV
  | .agg cs => cs
  | v => [v]

/-- A value of one cell, and known. -/
def AV.one : AV → Bool
  | .agg _ | .tuple _ | .top => false
  | _ => true

/-- What is known of an arena: its newest version's length; its block (block, capacity, cells an element, element type), if there may be room. -/
structure Ar where
  n : Nat
  blk : Option (Nat × Nat × Nat × TypeId)

/-- The ghost: which block an own object is; which cells stay as they are for good; arenas; records of loops; blocks of deferred calls. -/
structure Gh where
  w0 : World
  ρ : Nat → Option Nat
  F : Nat → Nat → Option Value
  ar : Nat → Option Ar
  lpD : Nat → Option Nat
  ds : Nat → Prop

/-- What an owner word says of a slice value. -/
def OwnR (G : Gh) (rows : List AV) (a : Option Addr) (cap sz : Nat) : Own → Prop
  | .free => True
  | .full => cap = rows.length
  | .arena i => ∃ r, G.ar i = some r ∧ rows.length ≤ r.n ∧ (rows.length = r.n → match r.blk with
      | none => cap = r.n
      | some (b, c, s, _) => a = some ⟨b, 0, none⟩ ∧ cap = c ∧ (rows ≠ [] → sz = s))

/-- An abstract value stands for a real one. -/
inductive VR (G : Gh) : AV → Value → Prop
  | top (v : Value) : VR G .top v
  | int (k : IntKind) (n : Int) : VR G (.int k n) (.int k n)
  | bool (b : Bool) : VR G (.bool b) (.bool b)
  | str (s : ByteArray) : VR G (.str s) (.string s)
  | ptrNil : VR G (.ptr none) (.pointer none)
  | ptr {i b o : Nat} (h : G.ρ i = some b) : VR G (.ptr (some (i, o))) (.pointer (some ⟨b, o, none⟩))
  | eptr {cs : List AV} {b o : Nat} (vals : Nat → Value) (hF : ∀ j c, cs[j]? = some c → G.F b (o + j) = some (vals j))
      (hv : ∀ j c, cs[j]? = some c → VR G c (vals j)) : VR G (.eptr cs) (.pointer (some ⟨b, o, none⟩))
  | sl {rows : List AV} {own : Own} {a : Option Addr} {cap sz : Nat} (vals : Nat → Nat → Value) (hcap : rows.length ≤ cap) (hnil : a = none → cap = 0)
      (hsz : ∀ (k : Nat) (r : AV), rows[k]? = some r → r.cells.length = sz)
      (hF : ∀ (k : Nat) (r : AV) (j : Nat) (c : AV), rows[k]? = some r → r.cells[j]? = some c → ∃ b o, a = some ⟨b, o, none⟩ ∧ G.F b (o + k * sz + j) = some (vals k j))
      (hv : ∀ (k : Nat) (r : AV) (j : Nat) (c : AV), rows[k]? = some r → r.cells[j]? = some c → VR G c (vals k j))
      (hown : OwnR G rows a cap sz own) : VR G (.sl rows own) (.slice a rows.length cap)
  | ms {i b off len cap sz : Nat} (h : G.ρ i = some b) : VR G (.ms i off len cap sz) (.slice (some ⟨b, off, none⟩) len cap)
  | mapNil : VR G (.map none) (.map none)
  | map {i b : Nat} (h : G.ρ i = some b) : VR G (.map (some i)) (.map (some b))
  | func {f : FuncId} {fs cs : List AV} {first captured : Array Value} (hf : fs.length = first.size) (hc : cs.length = captured.size)
      (hfv : ∀ j c, fs[j]? = some c → VR G c (first.getD j undef)) (hcv : ∀ j c, cs[j]? = some c → VR G c (captured.getD j undef)) :
      VR G (.func f fs cs) (.func (.func f) first captured)
  | yield {i b : Nat} (h : G.ρ i = some b) : VR G (.yield i) (.func (.yield b) #[] #[])
  | nilFunc : VR G .nilFunc .nilFunc
  | iface (t : TypeId) {a : AV} {v : Value} (h : VR G a v) : VR G (.iface t a) (.iface t v)
  | nilIface : VR G .nilIface .nilIface
  | agg {cs : List AV} {vals : Array Value} (hl : cs.length = vals.size) (hv : ∀ j c, cs[j]? = some c → VR G c (vals.getD j undef)) : VR G (.agg cs) (.agg vals)
  | tuple {cs : List AV} {vals : Array Value} (hl : cs.length = vals.size) (hv : ∀ j c, cs[j]? = some c → VR G c (vals.getD j undef)) : VR G (.tuple cs) (.tuple vals)

/-- Lists of values. -/
def VRs (G : Gh) (cs : List AV) (vals : Array Value) : Prop := cs.length = vals.size ∧ ∀ j c, cs[j]? = some c → VR G c (vals.getD j undef)

/-- One ghost goes on from another. -/
structure Gh.le (G G' : Gh) : Prop where
  w0 : G'.w0 = G.w0
  ρ : ∀ i b, G.ρ i = some b → G'.ρ i = some b
  F : ∀ b o v, G.F b o = some v → G'.F b o = some v
  ar : ∀ i r, G.ar i = some r → ∃ r', G'.ar i = some r' ∧ r.n ≤ r'.n ∧ (r.n = r'.n → r'.blk = r.blk)
  lpD : ∀ b D, G.lpD b = some D → G'.lpD b = some D
  ds : ∀ D, G.ds D → G'.ds D
  lpN : ∀ b D, G'.lpD b = some D → G.ds D → ∃ b', G.lpD b' = some D

theorem Gh.le.refl (G : Gh) : G.le G := ⟨rfl, fun _ _ h => h, fun _ _ _ h => h, fun _ r h => ⟨r, h, Nat.le_refl _, fun _ => rfl⟩, fun _ _ h => h, fun _ h => h, fun b _ h _ => ⟨b, h⟩⟩
theorem Gh.le.trans {A B D : Gh} (h : A.le B) (k : B.le D) : A.le D :=
  ⟨k.w0.trans h.w0, fun i b e => k.ρ i b (h.ρ i b e), fun b o v e => k.F b o v (h.F b o v e), fun i r e => by
    obtain ⟨r1, e1, l1, s1⟩ := h.ar i r e
    obtain ⟨r2, e2, l2, s2⟩ := k.ar i r1 e1
    exact ⟨r2, e2, Nat.le_trans l1 l2, fun q => (s2 (by omega)).trans (s1 (by omega))⟩, fun b D e => k.lpD b D (h.lpD b D e), fun D e => k.ds D (h.ds D e), fun b D e f => by
    obtain ⟨b', e'⟩ := k.lpN b D e (h.ds D f)
    exact h.lpN b' D e' f⟩

theorem OwnR.mono {G G' : Gh} (hg : G.le G') {rows : List AV} {a : Option Addr} {cap sz : Nat} {own : Own} (h : OwnR G rows a cap sz own) : OwnR G' rows a cap sz own := by
  cases own with
  | free => trivial
  | full => exact h
  | arena i =>
    obtain ⟨r, hr, hl, hm⟩ := h
    obtain ⟨r', hr', hle, hs⟩ := hg.ar i r hr
    refine ⟨r', hr', Nat.le_trans hl hle, fun e => ?_⟩
    have e1 : r.n = r'.n := by omega
    rw [hs e1, ← e1]
    exact hm (by omega)

theorem VR.mono {G G' : Gh} (hg : G.le G') {a : AV} {v : Value} (h : VR G a v) : VR G' a v := by
  induction h with
  | top v => exact .top v
  | int k n => exact .int k n
  | bool b => exact .bool b
  | str s => exact .str s
  | ptrNil => exact .ptrNil
  | ptr h => exact .ptr (hg.ρ _ _ h)
  | eptr vals hF _ ih => exact .eptr vals (fun j c h => hg.F _ _ _ (hF j c h)) ih
  | sl vals hcap hnil hsz hF _ hown ih => exact .sl vals hcap hnil hsz (fun k r j c h h' => by obtain ⟨b, o, e, f⟩ := hF k r j c h h'; exact ⟨b, o, e, hg.F _ _ _ f⟩) ih (hown.mono hg)
  | ms h => exact .ms (hg.ρ _ _ h)
  | mapNil => exact .mapNil
  | map h => exact .map (hg.ρ _ _ h)
  | func hf hc _ _ i1 i2 => exact .func hf hc i1 i2
  | yield h => exact .yield (hg.ρ _ _ h)
  | nilFunc => exact .nilFunc
  | iface t _ ih => exact .iface t ih
  | nilIface => exact .nilIface
  | agg hl _ ih => exact .agg hl ih
  | tuple hl _ ih => exact .tuple hl ih

theorem VRs.mono {G G' : Gh} (hg : G.le G') {cs : List AV} {vals : Array Value} (h : VRs G cs vals) : VRs G' cs vals := ⟨h.1, fun j c e => (h.2 j c e).mono hg⟩

theorem VRs.nil (G : Gh) : VRs G [] #[] := ⟨rfl, fun j c h => by simp at h⟩

theorem VRs.append {G : Gh} {as bs : List AV} {xs ys : Array Value} (h : VRs G as xs) (k : VRs G bs ys) : VRs G (as ++ bs) (xs ++ ys) := by
  refine ⟨by simp [h.1, k.1], fun j c e => ?_⟩
  rw [List.getElem?_append] at e
  split at e
  · rename_i hj
    have hj' : j < xs.size := h.1 ▸ hj
    have := h.2 j c e
    simpa [Array.getD_eq_getD_getElem?, Array.getElem?_append, hj'] using this
  · rename_i hj
    have hj' : ¬ j < xs.size := h.1 ▸ hj
    have := k.2 _ c e
    rw [h.1] at this
    simpa [Array.getD_eq_getD_getElem?, Array.getElem?_append, hj'] using this

theorem VRs.cons {G : Gh} {a : AV} {v : Value} {as : List AV} {xs : Array Value} (h : VR G a v) (k : VRs G as xs) : VRs G (a :: as) (#[v] ++ xs) :=
  VRs.append (as := [a]) (xs := #[v]) ⟨rfl, fun j c e => by cases j with
    | zero => simp at e; subst e; exact h
    | succ j => simp at e⟩ k

theorem VRs.one {G : Gh} {a : AV} {v : Value} (h : VR G a v) : VRs G [a] #[v] := VRs.cons h (VRs.nil G)

theorem VRs.get {G : Gh} {cs : List AV} {vals : Array Value} (h : VRs G cs vals) {j : Nat} {c : AV} (e : cs[j]? = some c) : ∃ v, vals[j]? = some v ∧ VR G c v := by
  have hj : j < vals.size := h.1 ▸ (List.getElem?_eq_some_iff.1 e).1
  refine ⟨vals[j], Array.getElem?_eq_getElem hj, ?_⟩
  have := h.2 j c e
  simpa [Array.getD_eq_getD_getElem?, Array.getElem?_eq_getElem hj] using this

theorem VRs.of_get {G : Gh} {cs : List AV} {vals : Array Value} (hl : cs.length = vals.size) (h : ∀ (j : Nat) (c : AV) (v : Value), cs[j]? = some c → vals[j]? = some v → VR G c v) : VRs G cs vals :=
  ⟨hl, fun j c e => by
    have hj : j < vals.size := hl ▸ (List.getElem?_eq_some_iff.1 e).1
    have := h j c vals[j] e (Array.getElem?_eq_getElem hj)
    simpa [Array.getD_eq_getD_getElem?, Array.getElem?_eq_getElem hj] using this⟩

theorem VRs.set {G : Gh} {cs : List AV} {vals : Array Value} (h : VRs G cs vals) {j : Nat} {c : AV} {v : Value} (hv : VR G c v) : VRs G (cs.set j c) (vals.setIfInBounds j v) := by
  refine VRs.of_get (by simp [h.1]) fun i c' v' e e' => ?_
  rw [List.getElem?_set] at e
  rw [Array.getElem?_setIfInBounds] at e'
  by_cases hij : j = i
  · subst hij
    simp only [if_true] at e e'
    split at e
    · split at e'
      · cases e; cases e'; exact hv
      · cases e'
    · cases e
  · simp only [hij, if_false] at e e'
    obtain ⟨u, hu, hr⟩ := h.get e
    rw [hu] at e'; cases e'; exact hr

/-- A value's cells. -/
theorem VR.cells {G : Gh} {a : AV} {v : Value} (h : VR G a v) (ha : a.one = true ∨ ∃ cs, a = .agg cs) : VRs G a.cells v.cells := by
  rcases ha with ha | ⟨cs, rfl⟩
  · have h0 := h
    cases h <;> first | (simp [AV.one] at ha; done) | exact VRs.one h0
  · cases h with
    | agg hl hv => exact ⟨hl, hv⟩

theorem VR.oneCell {G : Gh} {a : AV} {v : Value} (h : VR G a v) (ha : a.one = true) : v.oneCell' = true := by
  cases h <;> first | (simp [AV.one] at ha; done) | rfl

end Go.Abs
