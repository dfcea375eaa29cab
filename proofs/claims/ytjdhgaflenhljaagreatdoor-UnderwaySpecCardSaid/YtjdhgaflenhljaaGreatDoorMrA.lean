/- Texts joined: AbsA, AbsB, AbsC, AbsD, AbsE, AbsF. No conditions. -/
import Derived.WalkKit
import Derived.RangeFuncNested
import Derived.RangeFuncLeaves
import Derived.OrdersIn
import Derived.LoopNIn
/- An abstract view of the model's memory: values whose slices are lists, own variables and maps as a small heap, and what such a view says of a real world. It says nothing of any program; no conditions. -/
set_option linter.unusedSimpArgs false
set_option linter.unusedVariables false
namespace Go.Abs
open Go Go.RowKit

/-- Who may append in place to a slice: nobody knows (free); its length is its capacity (full); whoever holds the arena's newest version. -/
inductive Own where
  | free | full | arena (i : Nat)

/-- Abstract values. -/
inductive AV where
  | top
  | int (k : IntKind) (n : Int)
  | bool (b : Bool)
  | str (s : ByteArray)
  | ptr (p : Option (Nat × Nat))
  | eptr (cells : List AV)
  | sl (rows : List AV) (own : Own)
  | ms (i off len cap sz : Nat)
  | map (r : Option Nat)
  | func (fn : FuncId) (first captured : List AV)
  | yield (l : Nat)
  | nilFunc
  | iface (t : TypeId) (v : AV)
  | nilIface
  | agg (cells : List AV)
  | tuple (vs : List AV)

/-- The cells that a value fills. -/
def AV.cells : AV → List AV
  | .agg cs => cs
  | v => [v]

/-- A value of one cell, and known. -/
def AV.one : AV → Bool
  | .agg _ | .tuple _ | .top => false
  | _ => true

/-- What is known of an arena: its newest version's length; its block (block, capacity, cells an element, element type), if there may be room. -/
structure Ar where
  n : Nat
  blk : Option (Nat × Nat × Nat × TypeId)

/-- The ghost: which block an own object is; which cells stay as they are for good; arenas; records of loops; blocks of deferred calls. -/
structure Gh where
  w0 : World
  ρ : Nat → Option Nat
  F : Nat → Nat → Option Value
  ar : Nat → Option Ar
  lpD : Nat → Option Nat
  ds : Nat → Prop

/-- What an owner word says of a slice value. -/
def OwnR (G : Gh) (rows : List AV) (a : Option Addr) (cap sz : Nat) : Own → Prop
  | .free => True
  | .full => cap = rows.length
  | .arena i => ∃ r, G.ar i = some r ∧ rows.length ≤ r.n ∧ (rows.length = r.n → match r.blk with
      | none => cap = r.n
      | some (b, c, s, _) => a = some ⟨b, 0, none⟩ ∧ cap = c ∧ (rows ≠ [] → sz = s))

/-- An abstract value stands for a real one. -/
inductive VR (G : Gh) : AV → Value → Prop
  | top (v : Value) : VR G .top v
  | int (k : IntKind) (n : Int) : VR G (.int k n) (.int k n)
  | bool (b : Bool) : VR G (.bool b) (.bool b)
  | str (s : ByteArray) : VR G (.str s) (.string s)
  | ptrNil : VR G (.ptr none) (.pointer none)
  | ptr {i b o : Nat} (h : G.ρ i = some b) : VR G (.ptr (some (i, o))) (.pointer (some ⟨b, o, none⟩))
  | eptr {cs : List AV} {b o : Nat} (vals : Nat → Value) (hF : ∀ j c, cs[j]? = some c → G.F b (o + j) = some (vals j))
      (hv : ∀ j c, cs[j]? = some c → VR G c (vals j)) : VR G (.eptr cs) (.pointer (some ⟨b, o, none⟩))
  | sl {rows : List AV} {own : Own} {a : Option Addr} {cap sz : Nat} (vals : Nat → Nat → Value) (hcap : rows.length ≤ cap) (hnil : a = none → cap = 0)
      (hsz : ∀ (k : Nat) (r : AV), rows[k]? = some r → r.cells.length = sz)
      (hF : ∀ (k : Nat) (r : AV) (j : Nat) (c : AV), rows[k]? = some r → r.cells[j]? = some c → ∃ b o, a = some ⟨b, o, none⟩ ∧ G.F b (o + k * sz + j) = some (vals k j))
      (hv : ∀ (k : Nat) (r : AV) (j : Nat) (c : AV), rows[k]? = some r → r.cells[j]? = some c → VR G c (vals k j))
      (hown : OwnR G rows a cap sz own) : VR G (.sl rows own) (.slice a rows.length cap)
  | ms {i b off len cap sz : Nat} (h : G.ρ i = some b) : VR G (.ms i off len cap sz) (.slice (some ⟨b, off, none⟩) len cap)
  | mapNil : VR G (.map none) (.map none)
  | map {i b : Nat} (h : G.ρ i = some b) : VR G (.map (some i)) (.map (some b))
  | func {f : FuncId} {fs cs : List AV} {first captured : Array Value} (hf : fs.length = first.size) (hc : cs.length = captured.size)
      (hfv : ∀ j c, fs[j]? = some c → VR G c (first.getD j undef)) (hcv : ∀ j c, cs[j]? = some c → VR G c (captured.getD j undef)) :
      VR G (.func f fs cs) (.func (.func f) first captured)
  | yield {i b : Nat} (h : G.ρ i = some b) : VR G (.yield i) (.func (.yield b) #[] #[])
  | nilFunc : VR G .nilFunc .nilFunc
  | iface (t : TypeId) {a : AV} {v : Value} (h : VR G a v) : VR G (.iface t a) (.iface t v)
  | nilIface : VR G .nilIface .nilIface
  | agg {cs : List AV} {vals : Array Value} (hl : cs.length = vals.size) (hv : ∀ j c, cs[j]? = some c → VR G c (vals.getD j undef)) : VR G (.agg cs) (.agg vals)
  | tuple {cs : List AV} {vals : Array Value} (hl : cs.length = vals.size) (hv : ∀ j c, cs[j]? = some c → VR G c (vals.getD j undef)) : VR G (.tuple cs) (.tuple vals)

/-- Lists of values. -/
def VRs (G : Gh) (cs : List AV) (vals : Array Value) : Prop := cs.length = vals.size ∧ ∀ j c, cs[j]? = some c → VR G c (vals.getD j undef)

/-- One ghost goes on from another. -/
structure Gh.le (G G' : Gh) : Prop where
  w0 : G'.w0 = G.w0
  ρ : ∀ i b, G.ρ i = some b → G'.ρ i = some b
  F : ∀ b o v, G.F b o = some v → G'.F b o = some v
  ar : ∀ i r, G.ar i = some r → ∃ r', G'.ar i = some r' ∧ r.n ≤ r'.n ∧ (r.n = r'.n → r'.blk = r.blk)
  lpD : ∀ b D, G.lpD b = some D → G'.lpD b = some D
  ds : ∀ D, G.ds D → G'.ds D
  lpN : ∀ b D, G'.lpD b = some D → G.ds D → ∃ b', G.lpD b' = some D

theorem Gh.le.refl (G : Gh) : G.le G := ⟨rfl, fun _ _ h => h, fun _ _ _ h => h, fun _ r h => ⟨r, h, Nat.le_refl _, fun _ => rfl⟩, fun _ _ h => h, fun _ h => h, fun b _ h _ => ⟨b, h⟩⟩
theorem Gh.le.trans {A B D : Gh} (h : A.le B) (k : B.le D) : A.le D :=
  ⟨k.w0.trans h.w0, fun i b e => k.ρ i b (h.ρ i b e), fun b o v e => k.F b o v (h.F b o v e), fun i r e => by
    obtain ⟨r1, e1, l1, s1⟩ := h.ar i r e
    obtain ⟨r2, e2, l2, s2⟩ := k.ar i r1 e1
    exact ⟨r2, e2, Nat.le_trans l1 l2, fun q => (s2 (by omega)).trans (s1 (by omega))⟩, fun b D e => k.lpD b D (h.lpD b D e), fun D e => k.ds D (h.ds D e), fun b D e f => by
    obtain ⟨b', e'⟩ := k.lpN b D e (h.ds D f)
    exact h.lpN b' D e' f⟩

theorem OwnR.mono {G G' : Gh} (hg : G.le G') {rows : List AV} {a : Option Addr} {cap sz : Nat} {own : Own} (h : OwnR G rows a cap sz own) : OwnR G' rows a cap sz own := by
  cases own with
  | free => trivial
  | full => exact h
  | arena i =>
    obtain ⟨r, hr, hl, hm⟩ := h
    obtain ⟨r', hr', hle, hs⟩ := hg.ar i r hr
    refine ⟨r', hr', Nat.le_trans hl hle, fun e => ?_⟩
    have e1 : r.n = r'.n := by omega
    rw [hs e1, ← e1]
    exact hm (by omega)

theorem VR.mono {G G' : Gh} (hg : G.le G') {a : AV} {v : Value} (h : VR G a v) : VR G' a v := by
  induction h with
  | top v => exact .top v
  | int k n => exact .int k n
  | bool b => exact .bool b
  | str s => exact .str s
  | ptrNil => exact .ptrNil
  | ptr h => exact .ptr (hg.ρ _ _ h)
  | eptr vals hF _ ih => exact .eptr vals (fun j c h => hg.F _ _ _ (hF j c h)) ih
  | sl vals hcap hnil hsz hF _ hown ih => exact .sl vals hcap hnil hsz (fun k r j c h h' => by obtain ⟨b, o, e, f⟩ := hF k r j c h h'; exact ⟨b, o, e, hg.F _ _ _ f⟩) ih (hown.mono hg)
  | ms h => exact .ms (hg.ρ _ _ h)
  | mapNil => exact .mapNil
  | map h => exact .map (hg.ρ _ _ h)
  | func hf hc _ _ i1 i2 => exact .func hf hc i1 i2
  | yield h => exact .yield (hg.ρ _ _ h)
  | nilFunc => exact .nilFunc
  | iface t _ ih => exact .iface t ih
  | nilIface => exact .nilIface
  | agg hl _ ih => exact .agg hl ih
  | tuple hl _ ih => exact .tuple hl ih

theorem VRs.mono {G G' : Gh} (hg : G.le G') {cs : List AV} {vals : Array Value} (h : VRs G cs vals) : VRs G' cs vals := ⟨h.1, fun j c e => (h.2 j c e).mono hg⟩

theorem VRs.nil (G : Gh) : VRs G [] #[] := ⟨rfl, fun j c h => by simp at h⟩

theorem VRs.append {G : Gh} {as bs : List AV} {xs ys : Array Value} (h : VRs G as xs) (k : VRs G bs ys) : VRs G (as ++ bs) (xs ++ ys) := by
  refine ⟨by simp [h.1, k.1], fun j c e => ?_⟩
  rw [List.getElem?_append] at e
  split at e
  · rename_i hj
    have hj' : j < xs.size := h.1 ▸ hj
    have := h.2 j c e
    simpa [Array.getD_eq_getD_getElem?, Array.getElem?_append, hj'] using this
  · rename_i hj
    have hj' : ¬ j < xs.size := h.1 ▸ hj
    have := k.2 _ c e
    rw [h.1] at this
    simpa [Array.getD_eq_getD_getElem?, Array.getElem?_append, hj'] using this

theorem VRs.cons {G : Gh} {a : AV} {v : Value} {as : List AV} {xs : Array Value} (h : VR G a v) (k : VRs G as xs) : VRs G (a :: as) (#[v] ++ xs) :=
  VRs.append (as := [a]) (xs := #[v]) ⟨rfl, fun j c e => by cases j with
    | zero => simp at e; subst e; exact h
    | succ j => simp at e⟩ k

theorem VRs.one {G : Gh} {a : AV} {v : Value} (h : VR G a v) : VRs G [a] #[v] := VRs.cons h (VRs.nil G)

theorem VRs.get {G : Gh} {cs : List AV} {vals : Array Value} (h : VRs G cs vals) {j : Nat} {c : AV} (e : cs[j]? = some c) : ∃ v, vals[j]? = some v ∧ VR G c v := by
  have hj : j < vals.size := h.1 ▸ (List.getElem?_eq_some_iff.1 e).1
  refine ⟨vals[j], Array.getElem?_eq_getElem hj, ?_⟩
  have := h.2 j c e
  simpa [Array.getD_eq_getD_getElem?, Array.getElem?_eq_getElem hj] using this

theorem VRs.of_get {G : Gh} {cs : List AV} {vals : Array Value} (hl : cs.length = vals.size) (h : ∀ (j : Nat) (c : AV) (v : Value), cs[j]? = some c → vals[j]? = some v → VR G c v) : VRs G cs vals :=
  ⟨hl, fun j c e => by
    have hj : j < vals.size := hl ▸ (List.getElem?_eq_some_iff.1 e).1
    have := h j c vals[j] e (Array.getElem?_eq_getElem hj)
    simpa [Array.getD_eq_getD_getElem?, Array.getElem?_eq_getElem hj] using this⟩

theorem VRs.set {G : Gh} {cs : List AV} {vals : Array Value} (h : VRs G cs vals) {j : Nat} {c : AV} {v : Value} (hv : VR G c v) : VRs G (cs.set j c) (vals.setIfInBounds j v) := by
  refine VRs.of_get (by simp [h.1]) fun i c' v' e e' => ?_
  rw [List.getElem?_set] at e
  rw [Array.getElem?_setIfInBounds] at e'
  by_cases hij : j = i
  · subst hij
    simp only [if_true] at e e'
    split at e
    · split at e'
      · cases e; cases e'; exact hv
      · cases e'
    · cases e
  · simp only [hij, if_false] at e e'
    obtain ⟨u, hu, hr⟩ := h.get e
    rw [hu] at e'; cases e'; exact hr

/-- A value's cells. -/
theorem VR.cells {G : Gh} {a : AV} {v : Value} (h : VR G a v) (ha : a.one = true ∨ ∃ cs, a = .agg cs) : VRs G a.cells v.cells := by
  rcases ha with ha | ⟨cs, rfl⟩
  · have h0 := h
    cases h <;> first | (simp [AV.one] at ha; done) | exact VRs.one h0
  · cases h with
    | agg hl hv => exact ⟨hl, hv⟩

theorem VR.oneCell {G : Gh} {a : AV} {v : Value} (h : VR G a v) (ha : a.one = true) : v.oneCell' = true := by
  cases h <;> first | (simp [AV.one] at ha; done) | rfl

end Go.Abs

/- The abstract heap, what it says of a real world, and the steps that keep it true: new blocks, writes to own blocks, draws. It says nothing of any program; no conditions. -/
set_option linter.unusedSimpArgs false
set_option linter.unusedVariables false
namespace Go.Abs
open Go Go.RowKit

/-- Temporaries that are known. -/
abbrev Tm := List (Nat × AV)

def lk : Tm → Nat → AV
  | [], _ => .top
  | (j, v) :: r, i => if i = j then v else lk r i

/-- What a loop over a function was begun with. -/
structure LI where
  N : Nat
  σ : Tm
  params : Array Tmp
  assign : Code
  body : Code
  fn : Option FuncId

/-- Own objects. -/
inductive AObj where
  | row (cells : List AV) (T : TypeId)
  | map (ents : List (Nat × AV × AV)) (clk : Nat)
  | iter (m : Option Nat) (clk : Nat) (seen : List Nat)
  | siter (s : ByteArray) (pos : Nat)
  | arena (n : Nat)
  | loop (st : LoopState) (pend : Option Code) (li : LI)
  | dead
  | hole
  | frozen

abbrev AH := List AObj

/-- The temporaries of a frame. -/
def TR (N : Nat) (G : Gh) (σ : Tm) (tmps : Array Value) : Prop := tmps.size = N ∧ ∀ i, VR G (lk σ i) (tmps.getD i undef)

/-- What an own object is in the world. -/
def ObjR (G : Gh) (w : World) (i : Nat) : AObj → Prop
  | .row cs T => ∃ b vals, G.ρ i = some b ∧ w.heap[b]? = some (.cells vals T (0, 0)) ∧ VRs G cs vals
  | .map ents clk => ∃ (b : Nat) (es : Array MapEntry), G.ρ i = some b ∧ w.heap[b]? = some (.map es clk) ∧ ents.length = es.size ∧
      ∀ (j : Nat) (e : Nat × AV × AV) (x : MapEntry), ents[j]? = some e → es[j]? = some x → x.born = e.1 ∧ VR G e.2.1 x.key ∧ VR G e.2.2 x.val
  | .iter m clk seen => ∃ b mb, G.ρ i = some b ∧ w.heap[b]? = some (.mapIter mb clk seen.toArray clk) ∧ (match m with
      | none => mb = none
      | some j => ∃ c, mb = some c ∧ G.ρ j = some c)
  | .siter s pos => ∃ b, G.ρ i = some b ∧ w.heap[b]? = some (.stringIter s pos)
  | .arena n => ∃ r, G.ar i = some r ∧ r.n = n
  | .loop st pend li => ∃ b l, G.ρ i = some b ∧ w.heap[b]? = some (.loop l) ∧ l.state = st ∧ l.pending = pend ∧ l.params = li.params ∧ l.assign = li.assign ∧ l.body = li.body ∧
      TR li.N G li.σ l.tmps ∧ G.lpD b = some l.defers ∧ ∀ f, li.fn = some f → l.fn = f
  | .dead => True
  | .hole => G.ρ i = none ∧ G.ar i = none
  | .frozen => True

/-- An arena's block. -/
structure ArB (G : Gh) (w : World) (r : Ar) (b c sz : Nat) (T : TypeId) : Prop where
  blk : ∃ cells, w.heap[b]? = some (.cells cells T (0, 0)) ∧ cells.size = c * sz
  fit : r.n ≤ c
  pos : 0 < r.n
  base : G.w0.heap.size ≤ b
  above : ∀ o v, G.F b o = some v → o < r.n * sz
  ρ : ∀ j, G.ρ j ≠ some b

/-- The abstract heap is what the world holds. -/
structure Inv (Γ : Nat → Option (List AV)) (G : Gh) (h : AH) (w : World) : Prop where
  below : Below G.w0.heap.size G.w0 w
  drw : G.w0.drawn ≤ w.drawn
  fix : ∀ b o v, G.F b o = some v → w.cell? ⟨b, o, none⟩ = some v
  obj : ∀ i ob, h[i]? = some ob → ObjR G w i ob
  domρ : ∀ i b, G.ρ i = some b → i < h.length
  domA : ∀ i r, G.ar i = some r → i < h.length
  inj : ∀ i j b, G.ρ i = some b → G.ρ j = some b → i = j
  base : ∀ i b, G.ρ i = some b → G.w0.heap.size ≤ b ∧ b < w.heap.size
  sep : ∀ i b o v, h[i]? ≠ some .frozen → G.ρ i = some b → G.F b o = some v → False
  arB : ∀ i r b c sz T, G.ar i = some r → r.blk = some (b, c, sz, T) → ArB G w r b c sz T
  arI : ∀ i j r r' b c sz T c' sz' T', G.ar i = some r → G.ar j = some r' → r.blk = some (b, c, sz, T) → r'.blk = some (b, c', sz', T') → i = j
  lp : ∀ b D, G.lpD b = some D → ∃ l, w.heap[b]? = some (.loop l) ∧ l.defers = D ∧ G.ds D
  lpB : ∀ b D, G.lpD b = some D → G.w0.heap.size ≤ b
  dsI : ∀ D, G.ds D → w.heap[D]? = some (.deferred (some [])) ∧ G.w0.heap.size ≤ D
  glob : ∀ g cs, Γ g = some cs → VR G (.eptr cs) (.pointer (some ⟨g, 0, none⟩))

theorem TR.mono {N : Nat} {G G' : Gh} (hg : G.le G') {σ : Tm} {t : Array Value} (h : TR N G σ t) : TR N G' σ t := ⟨h.1, fun i => (h.2 i).mono hg⟩

/-- An object seen in a later world, where its own block is as it was. -/
theorem ObjR.mono {G G' : Gh} (hg : G.le G') {w w' : World} {i : Nat} {ob : AObj} (h : ObjR G w i ob) (hb : ∀ b, G.ρ i = some b → w'.heap[b]? = w.heap[b]?)
    (ha : ∀ r, G.ar i = some r → G'.ar i = some r) (hn : G.ρ i = none ∧ G.ar i = none → G'.ρ i = none ∧ G'.ar i = none) : ObjR G' w' i ob := by
  cases ob with
  | row cs T => obtain ⟨b, v, h1, h2, h3⟩ := h; exact ⟨b, v, hg.ρ _ _ h1, (hb b h1).trans h2, h3.mono hg⟩
  | map ents clk => obtain ⟨b, es, h1, h2, h3, h4⟩ := h; exact ⟨b, es, hg.ρ _ _ h1, (hb b h1).trans h2, h3, fun j e x he hx => ⟨(h4 j e x he hx).1, ((h4 j e x he hx).2.1).mono hg, ((h4 j e x he hx).2.2).mono hg⟩⟩
  | iter m clk seen =>
    obtain ⟨b, mb, h1, h2, h3⟩ := h
    refine ⟨b, mb, hg.ρ _ _ h1, (hb b h1).trans h2, ?_⟩
    cases m with
    | none => exact h3
    | some j => obtain ⟨c, e, k⟩ := h3; exact ⟨c, e, hg.ρ _ _ k⟩
  | siter s pos => obtain ⟨b, h1, h2⟩ := h; exact ⟨b, hg.ρ _ _ h1, (hb b h1).trans h2⟩
  | arena n => obtain ⟨r, h1, h2⟩ := h; exact ⟨r, ha r h1, h2⟩
  | loop st pend li =>
    obtain ⟨b, l, h1, h2, h3, h4, h5, h6, h7, h8, h9, h10⟩ := h
    exact ⟨b, l, hg.ρ _ _ h1, (hb b h1).trans h2, h3, h4, h5, h6, h7, h8.mono hg, hg.lpD _ _ h9, h10⟩
  | dead => trivial
  | hole => exact hn h
  | frozen => trivial

theorem ArB.mono {G G' : Gh} {w w' : World} {r : Ar} {b c sz : Nat} {T : TypeId} (h : ArB G w r b c sz T) (hw0 : G'.w0 = G.w0) (hb : w'.heap[b]? = w.heap[b]?)
    (hF : ∀ o v, G'.F b o = some v → G.F b o = some v) (hρ : ∀ j, G'.ρ j = some b → G.ρ j = some b) : ArB G' w' r b c sz T :=
  ⟨by rw [hb]; exact h.blk, h.fit, h.pos, by rw [hw0]; exact h.base, fun o v e => h.above o v (hF o v e), fun j e => h.ρ j (hρ j e)⟩

theorem lt_of_heap {w : World} {b : Nat} {o : Obj} (h : w.heap[b]? = some o) : b < w.heap.size := (Array.getElem?_eq_some_iff.1 h).1
theorem lt_of_cell {w : World} {b o : Nat} {v : Value} (h : w.cell? ⟨b, o, none⟩ = some v) : b < w.heap.size := World.block_lt_of_cell? w ⟨b, o, none⟩ h
theorem cell_eq {w w' : World} {b o : Nat} (h : w'.heap[b]? = w.heap[b]?) : w'.cell? ⟨b, o, none⟩ = w.cell? ⟨b, o, none⟩ := by simp [World.cell?, h]
theorem cell_of {w : World} {b o : Nat} {vals : Array Value} {T : TypeId} {fr : Nat × Nat} (h : w.heap[b]? = some (.cells vals T fr)) : w.cell? ⟨b, o, none⟩ = vals[o]? := by simp [World.cell?, h]

section
variable {Γ : Nat → Option (List AV)} {G : Gh} {h : AH} {w : World}

/-- What every block that the abstract heap speaks of has in common: it lies in the heap. -/
theorem Inv.F_lt (hI : Inv Γ G h w) {b o : Nat} {v : Value} (e : G.F b o = some v) : b < w.heap.size := lt_of_cell (hI.fix b o v e)
theorem Inv.ar_lt (hI : Inv Γ G h w) {i : Nat} {r : Ar} {b c sz : Nat} {T : TypeId} (e : G.ar i = some r) (e' : r.blk = some (b, c, sz, T)) : b < w.heap.size := by
  obtain ⟨cells, hb, _⟩ := (hI.arB i r b c sz T e e').blk
  exact lt_of_heap hb
theorem Inv.row (hI : Inv Γ G h w) {i : Nat} {cs : List AV} {T : TypeId} (e : h[i]? = some (.row cs T)) : ∃ b vals, G.ρ i = some b ∧ w.heap[b]? = some (.cells vals T (0, 0)) ∧ VRs G cs vals := hI.obj i _ e

/-- **A world in which all that was there is as it was** (new blocks, draws): nothing turns. -/
theorem Inv.later (hI : Inv Γ G h w) {w' : World} (hs : w.heap.size ≤ w'.heap.size) (ho : w'.os = w.os) (ht : w'.tape = w.tape) (hp : w'.output = w.output)
    (hb : ∀ k, k < w.heap.size → w'.heap[k]? = w.heap[k]?) (hd : w.drawn ≤ w'.drawn := by first | exact Nat.le_refl _ | exact Nat.le_succ _ | (simp [World.drew]; done)) : Inv Γ G h w' where
  drw := Nat.le_trans hI.drw hd
  below := hI.below.trans ⟨ho, ht, hp, hs, fun k hk => hb k (Nat.lt_of_lt_of_le hk hI.below.size)⟩
  fix := fun b o v e => (cell_eq (hb b (hI.F_lt e))).trans (hI.fix b o v e)
  obj := fun i ob e => (hI.obj i ob e).mono (Gh.le.refl G) (fun b e' => hb b (hI.base i b e').2) (fun _ h => h) (fun h => h)
  domρ := hI.domρ
  domA := hI.domA
  inj := hI.inj
  base := fun i b e => ⟨(hI.base i b e).1, Nat.lt_of_lt_of_le (hI.base i b e).2 hs⟩
  sep := hI.sep
  arB := fun i r b c sz T e e' => (hI.arB i r b c sz T e e').mono rfl (hb b (hI.ar_lt e e')) (fun _ _ h => h) (fun _ h => h)
  arI := hI.arI
  lp := fun b D e => by obtain ⟨l, h1, h2⟩ := hI.lp b D e; exact ⟨l, (hb b (lt_of_heap h1)).trans h1, h2⟩
  lpB := hI.lpB
  dsI := fun D e => ⟨(hb D (lt_of_heap (hI.dsI D e).1)).trans (hI.dsI D e).1, (hI.dsI D e).2⟩
  glob := hI.glob

theorem Inv.alloc_any (hI : Inv Γ G h w) (o : Obj) : Inv Γ G h (w.alloc o) :=
  hI.later (by simp) rfl rfl rfl (fun k hk => Below.heap_alloc w o k hk)
theorem Inv.drew (hI : Inv Γ G h w) : Inv Γ G h w.drew := hI.later (Nat.le_refl _) rfl rfl rfl (fun _ _ => rfl)

/-- The ghost with one object more. -/
def Gh.add (G : Gh) (i b : Nat) : Gh := { G with ρ := fun j => if j = i then some b else G.ρ j }
theorem Inv.add_le (hI : Inv Γ G h w) (b : Nat) : G.le (G.add h.length b) :=
  ⟨rfl, fun i c e => by have := hI.domρ i c e; simp only [Gh.add]; rw [if_neg (by omega)]; exact e, fun _ _ _ e => e, fun _ r e => ⟨r, e, Nat.le_refl _, fun _ => rfl⟩, fun _ _ e => e, fun _ e => e, fun b _ e _ => ⟨b, e⟩⟩
theorem Gh.add_same (G : Gh) (i b : Nat) : (G.add i b).ρ i = some b := by simp [Gh.add]

/-- **A new own object.** -/
theorem Inv.alloc (hI : Inv Γ G h w) (o : Obj) (ob : AObj) (hob : ObjR (G.add h.length w.heap.size) (w.alloc o) h.length ob) :
    Inv Γ (G.add h.length w.heap.size) (h ++ [ob]) (w.alloc o) := by
  have hle := hI.add_le w.heap.size
  have hI' := hI.alloc_any o
  have hρ : ∀ i b, (G.add h.length w.heap.size).ρ i = some b → (i = h.length ∧ b = w.heap.size) ∨ (i ≠ h.length ∧ G.ρ i = some b) := fun i b e => by
    simp only [Gh.add] at e
    split at e
    · rename_i hi; cases e; exact .inl ⟨hi, rfl⟩
    · rename_i hi; exact .inr ⟨hi, e⟩
  exact {
    below := hI'.below
    drw := hI'.drw
    fix := hI'.fix
    obj := fun i ob' e => by
      rw [List.getElem?_append] at e
      split at e
      · rename_i hi
        exact (hI'.obj i ob' e).mono hle (fun _ _ => rfl) (fun _ h => h) (fun h => ⟨by simp only [Gh.add]; rw [if_neg (by omega)]; exact h.1, h.2⟩)
      · rename_i hi
        have : i = h.length := by
          have := (List.getElem?_eq_some_iff.1 e).1
          simp at this; omega
        subst this
        simp at e; subst e; exact hob
    domρ := fun i b e => by
      rcases hρ i b e with ⟨h1, _⟩ | ⟨_, h2⟩
      · simp [h1]
      · have := hI.domρ i b h2; simp; omega
    domA := fun i r e => by have := hI.domA i r e; simp; omega
    inj := fun i j b e e' => by
      rcases hρ i b e with ⟨h1, h2⟩ | ⟨h1, h2⟩ <;> rcases hρ j b e' with ⟨k1, k2⟩ | ⟨k1, k2⟩
      · omega
      · have := (hI.base j b k2).2; omega
      · have := (hI.base i b h2).2; omega
      · exact hI.inj i j b h2 k2
    base := fun i b e => by
      rcases hρ i b e with ⟨h1, h2⟩ | ⟨h1, h2⟩
      · subst h2; exact ⟨hI.below.size, by simp⟩
      · have := hI.base i b h2; exact ⟨this.1, by simp; omega⟩
    sep := fun i b o v hf e e' => by
      rcases hρ i b e with ⟨h1, h2⟩ | ⟨h1, h2⟩
      · have := hI.F_lt (show G.F b o = some v from e'); omega
      · exact hI.sep i b o v (fun e'' => hf (by rw [List.getElem?_append_left (hI.domρ i b h2)]; exact e'')) h2 e'
    arB := fun i r b c sz T e e' => (hI'.arB i r b c sz T e e').mono (G' := G.add h.length w.heap.size) rfl rfl (fun _ _ h => h) (fun j ej => by
      rcases hρ j b ej with ⟨_, h2⟩ | ⟨_, h2⟩
      · have := hI.ar_lt (show G.ar i = some r from e) e'; omega
      · exact h2)
    arI := hI'.arI
    lp := hI'.lp
    lpB := hI'.lpB
    dsI := hI'.dsI
    glob := fun g cs e => (hI'.glob g cs e).mono hle }

/-- The ghost that fixes a new block's cells for good. -/
def Gh.fixed (G : Gh) (b : Nat) (vals : Array Value) : Gh := { G with F := fun c o => if c = b then vals[o]? else G.F c o }
theorem Inv.fixed_le (hI : Inv Γ G h w) (vals : Array Value) : G.le (G.fixed w.heap.size vals) :=
  ⟨rfl, fun _ _ e => e, fun b o v e => by have := hI.F_lt e; simp only [Gh.fixed]; rw [if_neg (by omega)]; exact e, fun _ r e => ⟨r, e, Nat.le_refl _, fun _ => rfl⟩, fun _ _ e => e, fun _ e => e, fun b _ e _ => ⟨b, e⟩⟩

/-- **A new block whose cells nobody will write.** -/
theorem Inv.alloc_fixed (hI : Inv Γ G h w) (vals : Array Value) (T : TypeId) : Inv Γ (G.fixed w.heap.size vals) h (w.alloc (.cells vals T)) := by
  have hle := hI.fixed_le vals
  have hI' := hI.alloc_any (.cells vals T)
  have hnew : (w.alloc (.cells vals T)).heap[w.heap.size]? = some (.cells vals T (0, 0)) := heap_alloc_new w _
  exact {
    below := hI'.below
    drw := hI'.drw
    fix := fun b o v e => by
      simp only [Gh.fixed] at e
      split at e
      · rename_i hb; subst hb; rw [cell_of hnew]; exact e
      · exact hI'.fix b o v e
    obj := fun i ob e => (hI'.obj i ob e).mono hle (fun _ _ => rfl) (fun _ h => h) (fun h => h)
    domρ := hI.domρ
    domA := hI.domA
    inj := hI.inj
    base := hI'.base
    sep := fun i b o v hf e e' => by
      simp only [Gh.fixed] at e'
      split at e'
      · rename_i hb; have := (hI.base i b e).2; omega
      · exact hI.sep i b o v hf e e'
    arB := fun i r b c sz T e e' => (hI'.arB i r b c sz T e e').mono (G' := G.fixed w.heap.size vals) rfl rfl (fun o v hF => by
      have := hI.ar_lt e e'
      simp only [Gh.fixed] at hF
      rw [if_neg (by omega)] at hF; exact hF) (fun _ h => h)
    arI := hI.arI
    lp := hI'.lp
    lpB := hI'.lpB
    dsI := hI'.dsI
    glob := fun g cs e => (hI'.glob g cs e).mono hle }

/-- **A write to an own object's block.** -/
theorem Inv.write (hI : Inv Γ G h w) {w' : World} {i B : Nat} (hi : G.ρ i = some B) (hs : w'.heap.size = w.heap.size) (ho : w'.os = w.os) (ht : w'.tape = w.tape) (hp : w'.output = w.output)
    (hb : ∀ k, k ≠ B → w'.heap[k]? = w.heap[k]?) (ob : AObj) (hob : ObjR G w' i ob)
    (hl : ∀ D, G.lpD B = some D → ∃ l, w'.heap[B]? = some (.loop l) ∧ l.defers = D) (hk : w.heap[B]? ≠ some (.deferred (some []))) (hfz : h[i]? ≠ some .frozen) (hd : w.drawn ≤ w'.drawn := by first | exact Nat.le_refl _ | exact Nat.le_succ _ | (simp [World.drew]; done)) : Inv Γ G (h.set i ob) w' where
  drw := Nat.le_trans hI.drw hd
  below := hI.below.trans ⟨ho, ht, hp, by omega, fun k hk' => hb k (fun e => by have := (hI.base i B hi).1; omega)⟩
  fix := fun b o v e => (cell_eq (hb b (fun e' => hI.sep i B o v hfz hi (e' ▸ e)))).trans (hI.fix b o v e)
  obj := fun j ob' e => by
    rw [List.getElem?_set] at e
    split at e
    · rename_i hij
      subst hij
      split at e
      · cases e; exact hob
      · cases e
    · rename_i hij
      exact (hI.obj j ob' e).mono (Gh.le.refl G) (fun b e' => hb b (fun e'' => hij (hI.inj i j B hi (e'' ▸ e')))) (fun _ h => h) (fun h => h)
  domρ := fun j b e => by rw [List.length_set]; exact hI.domρ j b e
  domA := fun j r e => by rw [List.length_set]; exact hI.domA j r e
  inj := hI.inj
  base := fun j b e => by rw [hs]; exact hI.base j b e
  sep := fun j b o v hf e e' => by
    by_cases hj : i = j
    · subst hj; exact hI.sep i b o v hfz e e'
    · exact hI.sep j b o v (fun e'' => hf (by rw [List.getElem?_set_ne hj]; exact e'')) e e'
  arB := fun j r b c sz T e e' => (hI.arB j r b c sz T e e').mono rfl (hb b (fun e'' => (hI.arB j r b c sz T e e').ρ i (e'' ▸ hi))) (fun _ _ h => h) (fun _ h => h)
  arI := hI.arI
  lp := fun b D e => by
    obtain ⟨l, h1, h2, h3⟩ := hI.lp b D e
    by_cases hbB : b = B
    · subst hbB; obtain ⟨l', k1, k2⟩ := hl D e; exact ⟨l', k1, k2, h3⟩
    · exact ⟨l, (hb b hbB).trans h1, h2, h3⟩
  lpB := hI.lpB
  dsI := fun D e => ⟨(hb D (fun e' => hk (e' ▸ (hI.dsI D e).1))).trans (hI.dsI D e).1, (hI.dsI D e).2⟩
  glob := hI.glob
end
end Go.Abs

/- What the model's operations on memory do, seen abstractly: constants, loads, stores, new variables, addresses. It says nothing of any program; no conditions. -/
set_option linter.unusedSimpArgs false
set_option linter.unusedVariables false
namespace Go.Abs
open Go Go.RowKit

def tsz (P : Program) (t : TypeId) : Option Nat := (P.info? t).map (·.size)
def tbytes (P : Program) (t : TypeId) : Option Nat := (P.info? t).map (·.bytes)
def tzero (P : Program) (t : TypeId) : Option Value := (P.info? t).bind (·.zero)

/-- A constant of one cell. -/
def ofV1 : Value → AV
  | .int k n => .int k n
  | .bool b => .bool b
  | .string s => .str s
  | .pointer none => .ptr none
  | .slice none 0 0 => .sl [] .full
  | .map none => .map none
  | .nilFunc => .nilFunc
  | .nilIface => .nilIface
  | _ => .top
/-- A constant. -/
def ofV : Value → AV
  | .agg cs => .agg (cs.toList.map ofV1)
  | .tuple cs => .tuple (cs.toList.map ofV1)
  | v => ofV1 v

theorem VR.nilSl (G : Gh) (own : Own) (ho : OwnR G [] none 0 0 own) : VR G (.sl [] own) (.slice none 0 0) :=
  VR.sl (rows := []) (sz := 0) (fun _ _ => undef) (Nat.le_refl _) (fun _ => rfl) (fun k r h => by simp at h) (fun k r j c h => by simp at h) (fun k r j c h => by simp at h) ho

theorem ofV1_VR (G : Gh) (v : Value) : VR G (ofV1 v) v := by
  unfold ofV1
  split <;> first | exact .int _ _ | exact .bool _ | exact .str _ | exact .ptrNil | exact VR.nilSl G .full rfl | exact .mapNil | exact .nilFunc | exact .nilIface | exact .top _

theorem ofV1s_VR (G : Gh) (cs : Array Value) : VRs G (cs.toList.map ofV1) cs :=
  VRs.of_get (by simp) fun j c v e e' => by
    have e'' : cs.toList[j]? = some v := by simpa using e'
    rw [List.getElem?_map, e''] at e
    simp at e; subst e; exact ofV1_VR G v

theorem ofV_VR (G : Gh) (v : Value) : VR G (ofV v) v := by
  unfold ofV
  split
  · exact .agg (ofV1s_VR G _).1 (ofV1s_VR G _).2
  · exact .tuple (ofV1s_VR G _).1 (ofV1s_VR G _).2
  · exact ofV1_VR G v

/-- An operand. -/
def ev (Γ : Nat → Option (List AV)) (σ : Tm) : Operand → AV
  | .tmp t => lk σ t
  | .const v => ofV v
  | .global g => match Γ g with
    | some cs => .eptr cs
    | none => .top
  | .func f => .func f [] []

/-- What an operation leaves, seen abstractly. -/
def SemOK (P : Program) (Γ : Nat → Option (List AV)) (G : Gh) (w : World) (s : Sem Value) (K : AV → AH → Prop) : Prop :=
  ∃ u w' G' av h', s.run P w = .ok u w' ∧ G.le G' ∧ Inv Γ G' h' w' ∧ VR G' av u ∧ K av h'
def SemOKU (P : Program) (Γ : Nat → Option (List AV)) (G : Gh) (w : World) (s : Sem Unit) (K : AH → Prop) : Prop :=
  ∃ w' G' h', s.run P w = .ok () w' ∧ G.le G' ∧ Inv Γ G' h' w' ∧ K h'

section
variable {P : Program} {Γ : Nat → Option (List AV)} {G : Gh} {h : AH} {w : World} {N : Nat} {σ : Tm}

theorem ev_VR (hI : Inv Γ G h w) {a : Act} (ht : TR N G σ a.tmps) (x : Operand) : VR G (ev Γ σ x) (a.eval x) := by
  cases x with
  | tmp t => exact ht.2 t
  | const v => exact ofV_VR G v
  | global g =>
    simp only [ev, Act.eval]
    cases hg : Γ g with
    | none => exact .top _
    | some cs => exact hI.glob g cs hg
  | func f => exact .func rfl rfl (fun j c e => by simp at e) (fun j c e => by simp at e)

theorem run_sizeOf' {t : TypeId} {n : Nat} (e : tsz P t = some n) (w : World) : (sizeOf t).run P w = .ok n w := by
  unfold tsz at e
  cases hi : P.info? t with
  | none => simp [hi] at e
  | some i => simp [hi] at e; simp [sizeOf, typeInfo, hi, e]

theorem run_zero' {t : TypeId} {z : Value} (e : tzero P t = some z) (w : World) : (zeroValue t).run P w = .ok z w := by
  unfold tzero at e
  cases hi : P.info? t with
  | none => simp [hi] at e
  | some i => simp [hi] at e; simp [zeroValue, typeInfo, hi, e]

def aggD : TypeDesc → Bool
  | .struct _ | .array _ _ => true
  | _ => false

theorem run_isAgg' {t : TypeId} {d : TypeDesc} (e : P.underlying t = some d) (w : World) : (isAgg t).run P w = .ok (aggD d) w := by
  cases d <;> simp [isAgg, run_underlying e, aggD]

/-- Reading a variable of type t that begins with these cells. -/
def aLd (P : Program) (t : TypeId) (cs : List AV) (k : AV → Prop) : Prop :=
  match P.underlying t with
  | none => False
  | some d => if aggD d then (match tsz P t with
      | some n => n ≤ cs.length ∧ k (.agg (cs.take n))
      | none => False) else (match cs with
      | c :: _ => k c
      | [] => False)

/-- Cells at a place. -/
def At (G : Gh) (w : World) (b o : Nat) (cs : List AV) : Prop := ∀ j c, cs[j]? = some c → ∃ v, w.cell? ⟨b, o + j, none⟩ = some v ∧ VR G c v

theorem At.drop {b o : Nat} {cs : List AV} (hA : At G w b o cs) (n : Nat) : At G w b (o + n) (cs.drop n) := fun j c e => by
  rw [List.getElem?_drop] at e
  obtain ⟨v, h1, h2⟩ := hA _ c e
  exact ⟨v, by rw [show o + n + j = o + (n + j) from by omega]; exact h1, h2⟩

theorem At.of_eptr (hI : Inv Γ G h w) {cs : List AV} {b o : Nat} (hv : VR G (.eptr cs) (.pointer (some ⟨b, o, none⟩))) : At G w b o cs := by
  cases hv with
  | eptr vals hF hv => exact fun j c e => ⟨vals j, hI.fix _ _ _ (hF j c e), hv j c e⟩

theorem At.of_row {b : Nat} {vals : Array Value} {T : TypeId} {cs : List AV} (hb : w.heap[b]? = some (.cells vals T (0, 0))) (hv : VRs G cs vals) : At G w b 0 cs := fun j c e => by
  obtain ⟨v, h1, h2⟩ := hv.get e
  exact ⟨v, by rw [cell_of hb, Nat.zero_add]; exact h1, h2⟩

theorem loadVar_ok {t : TypeId} {b o : Nat} {cs : List AV} (hA : At G w b o cs) {k : AV → Prop} (H : aLd P t cs k) :
    ∃ u av, (loadVar t ⟨b, o, none⟩).run P w = .ok u w ∧ VR G av u ∧ k av := by
  unfold aLd at H
  split at H
  · exact H.elim
  · rename_i d hd
    split at H
    · rename_i ha
      split at H
      · rename_i n hn
        obtain ⟨hle, hk⟩ := H
        have hr := run_loadCells (P := P) w ⟨b, o, none⟩ n (fun j => (w.cell? ⟨b, o + j, none⟩).getD undef) (fun j hj => by
          obtain ⟨v, h1, _⟩ := hA j _ (List.getElem?_eq_getElem (show j < cs.length by omega))
          rw [Addr.add_lit, h1]; rfl)
        refine ⟨.agg ((List.range n).map fun j => (w.cell? ⟨b, o + j, none⟩).getD undef).toArray, _, ?_, ?_, hk⟩
        · simp only [loadVar, Sem.run_bind, run_isAgg' hd, ha, Result.andThen_ok, if_true, run_sizeOf' hn, hr, Sem.run_pure]
        · have hs : VRs G (cs.take n) ((List.range n).map fun j => (w.cell? ⟨b, o + j, none⟩).getD undef).toArray :=
            VRs.of_get (by simp; omega) fun j c v e e' => by
              rw [List.getElem?_take] at e
              split at e
              · rename_i hj
                obtain ⟨u, h1, h2⟩ := hA j c e
                simp [hj, h1] at e'
                subst e'; exact h2
              · cases e
          exact .agg hs.1 hs.2
      · exact H.elim
    · rename_i ha
      split at H
      · rename_i c rest
        obtain ⟨v, h1, h2⟩ := hA 0 c rfl
        refine ⟨v, c, ?_, h2, H⟩
        simp only [Bool.not_eq_true] at ha
        simp only [loadVar, Sem.run_bind, run_isAgg' hd, ha, Result.andThen_ok, Bool.false_eq_true, if_false, run_load]
        rw [Nat.add_zero] at h1
        rw [h1]
      · exact H.elim

/-- A load through an address. -/
def aLoad (P : Program) (t : TypeId) (a : AV) (h : AH) (K : AV → AH → Prop) : Prop :=
  match a with
  | .ptr (some (i, o)) => match h[i]? with
    | some (.row cs _) => aLd P t (cs.drop o) fun v => K v h
    | _ => False
  | .eptr cs => aLd P t cs fun v => K v h
  | _ => False

theorem loadAt_same (hI : Inv Γ G h w) {t : TypeId} {a : AV} {v : Value} (ha : VR G a v) {K : AV → AH → Prop} (H : aLoad P t a h K) : ∃ ad u av, v = .pointer (some ad) ∧ (loadVar t ad).run P w = .ok u w ∧ VR G av u ∧ K av h := by
  unfold aLoad at H
  split at H
  · rename_i i o
    split at H
    · rename_i cs T hrow
      obtain ⟨b, vals, h1, h2, h3⟩ := hI.row hrow
      cases ha with
      | ptr hb =>
        rw [h1] at hb; cases hb
        obtain ⟨u, av, r, hv, hk⟩ := loadVar_ok ((At.of_row h2 h3).drop o) H
        rw [Nat.zero_add] at r
        exact ⟨_, u, av, rfl, r, hv, hk⟩
    · exact H.elim
  · cases ha with
    | eptr vals hF hv =>
      obtain ⟨u, av, r, hv, hk⟩ := loadVar_ok (At.of_eptr hI (.eptr vals hF hv)) H
      exact ⟨_, u, av, rfl, r, hv, hk⟩
  · exact H.elim

theorem loadAt_ok (hI : Inv Γ G h w) {t : TypeId} {a : AV} {v : Value} (ha : VR G a v) {K : AV → AH → Prop} (H : aLoad P t a h K) : SemOK P Γ G w (Instr.loadAt t v) K := by
  obtain ⟨ad, u, av, rfl, r, hv, hk⟩ := loadAt_same hI ha H
  exact ⟨u, w, G, av, h, by simp [Instr.loadAt, Instr.sureAddr, r], Gh.le.refl G, hI, hv, hk⟩

/-- May a value be stored? -/
def AV.good : AV → Bool
  | .tuple _ | .top => false
  | .agg cs => cs.all AV.one
  | _ => true

theorem AV.good_cells {a : AV} (h : a.good = true) : (∀ c ∈ a.cells, c.one = true) ∧ (a.one = true ∨ ∃ cs, a = .agg cs) := by
  cases a with
  | agg cs => exact ⟨fun c hc => List.all_eq_true.1 h c hc, .inr ⟨cs, rfl⟩⟩
  | tuple _ => simp [AV.good] at h
  | top => simp [AV.good] at h
  | _ => exact ⟨fun c hc => by simp [AV.cells] at hc; subst hc; rfl, .inl rfl⟩

theorem VRs.oneCells {cs : List AV} {vals : Array Value} (hv : VRs G cs vals) (ho : ∀ c ∈ cs, c.one = true) : ∀ v ∈ vals.toList, v.oneCell' = true := fun v hm => by
  obtain ⟨j, hj, e⟩ := List.getElem_of_mem hm
  have hj' : j < cs.length := by rw [hv.1]; simpa using hj
  obtain ⟨u, h1, h2⟩ := hv.get (List.getElem?_eq_getElem hj')
  have : u = v := by
    have : vals.toList[j]? = some v := by rw [List.getElem?_eq_getElem hj, e]
    rw [Array.getElem?_toList] at this
    rw [h1] at this; exact Option.some.inj this
  subst this
  exact h2.oneCell (ho _ (List.getElem_mem hj'))

/-- Cells written over others. -/
def splice (cs : List AV) (o : Nat) (xs : List AV) : List AV :=
  match xs with
  | [x] => cs.set o x
  | _ => cs.take o ++ xs ++ cs.drop (o + xs.length)

theorem splice_get (cs : List AV) (o : Nat) (xs : List AV) (hl : o + xs.length ≤ cs.length) (j : Nat) : (splice cs o xs)[j]? = if o ≤ j ∧ j < o + xs.length then xs[j - o]? else cs[j]? := by
  have key : (cs.take o ++ xs ++ cs.drop (o + xs.length))[j]? = if o ≤ j ∧ j < o + xs.length then xs[j - o]? else cs[j]? := by
    have ho : (cs.take o).length = o := by simp; omega
    rw [List.getElem?_append, List.length_append, ho, List.getElem?_append, ho]
    by_cases h1 : j < o
    · rw [if_pos (by omega), if_pos h1, if_neg (by omega), List.getElem?_take, if_pos h1]
    · by_cases h2 : j < o + xs.length
      · rw [if_pos h2, if_neg h1, if_pos ⟨by omega, h2⟩]
      · rw [if_neg h2, if_neg (by omega), List.getElem?_drop]
        congr 1; omega
  unfold splice
  split
  · rename_i x
    simp only [List.length_cons, List.length_nil] at hl ⊢
    rw [List.getElem?_set]
    by_cases hj : o = j
    · subst hj
      rw [if_pos rfl, if_pos (show o < cs.length by omega), if_pos ⟨Nat.le_refl _, by omega⟩]
      simp
    · rw [if_neg hj, if_neg (by omega)]
  · exact key

theorem splice_length (cs : List AV) (o : Nat) (xs : List AV) (hl : o + xs.length ≤ cs.length) : (splice cs o xs).length = cs.length := by
  unfold splice
  split
  · simp
  · simp; omega

theorem VRs.splice {cs xs : List AV} {vals ys : Array Value} {o : Nat} (hv : VRs G cs vals) (hx : VRs G xs ys) (hl : o + xs.length ≤ cs.length) :
    VRs G (splice cs o xs) (vals.toList.take o ++ ys.toList ++ vals.toList.drop (o + ys.toList.length)).toArray := by
  have hvl : vals.toList.length = cs.length := by simp [hv.1]
  have hyl : ys.toList.length = xs.length := by simp [hx.1]
  refine VRs.of_get (by rw [splice_length cs o xs hl]; simp only [List.size_toArray, List.length_append, List.length_take, List.length_drop]; omega) fun j c v e e' => ?_
  rw [splice_get cs o xs hl] at e
  rw [List.getElem?_toArray] at e'
  have ho : (vals.toList.take o).length = o := by rw [List.length_take]; omega
  rw [List.getElem?_append, List.length_append, ho, List.getElem?_append, ho, hyl] at e'
  by_cases h1 : j < o
  · rw [if_pos (by omega), if_pos h1, List.getElem?_take, if_pos h1, Array.getElem?_toList] at e'
    rw [if_neg (by omega)] at e
    obtain ⟨u, k1, k2⟩ := hv.get e
    rw [k1] at e'; cases e'; exact k2
  · by_cases h2 : j < o + xs.length
    · rw [if_pos h2, if_neg h1, Array.getElem?_toList] at e'
      rw [if_pos ⟨by omega, h2⟩] at e
      obtain ⟨u, k1, k2⟩ := hx.get e
      rw [k1] at e'; cases e'; exact k2
    · rw [if_neg h2, List.getElem?_drop, Array.getElem?_toList] at e'
      rw [if_neg (by omega)] at e
      rw [show o + xs.length + (j - (o + xs.length)) = j from by omega] at e'
      obtain ⟨u, k1, k2⟩ := hv.get e
      rw [k1] at e'; cases e'; exact k2

/-- A store through an address of one's own. -/
def aStore (P : Program) (t : TypeId) (a x : AV) (h : AH) (K : AH → Prop) : Prop :=
  match a with
  | .ptr (some (i, o)) => match h[i]? with
    | some (.row cs T) => tsz P t = some x.cells.length ∧ x.good = true ∧ o + x.cells.length ≤ cs.length ∧ K (h.set i (.row (splice cs o x.cells) T))
    | _ => False
  | _ => False

theorem heap_setRow_ne (w : World) (g k : Nat) (cur : Array Value) (hk : k ≠ g) : (w.setRow g cur).heap[k]? = w.heap[k]? := by
  simp only [World.setRow, Array.getElem?_modify]
  rw [if_neg (fun e => hk e.symm)]

theorem storeAt_ok (hI : Inv Γ G h w) {t : TypeId} {a x : AV} {v u : Value} (ha : VR G a v) (hx : VR G x u) {K : AH → Prop} (H : aStore P t a x h K) : SemOKU P Γ G w (Instr.storeAt t v u) K := by
  unfold aStore at H
  split at H
  · rename_i i o
    split at H
    · rename_i cs T hrow
      obtain ⟨hsz, hgd, hfit, hk⟩ := H
      obtain ⟨b, vals, h1, h2, h3⟩ := hI.row hrow
      cases ha with
      | ptr hb =>
        rw [h1] at hb; cases hb
        have hc := hx.cells (AV.good_cells hgd).2
        have hone := hc.oneCells (AV.good_cells hgd).1
        have hst := run_storeCells_at P b o T u.cells.toList 0 vals w h2 (by have := h3.1; have := hc.1; simp only [Array.length_toList]; omega) hone
        simp only [Nat.add_zero] at hst
        refine ⟨w.setRow b (vals.toList.take o ++ u.cells.toList ++ vals.toList.drop (o + u.cells.toList.length)).toArray, G, _, ?_, Gh.le.refl G, ?_, hk⟩
        · simp only [Instr.storeAt, Instr.sureAddr, Sem.run_bind, Sem.run_pure, Result.andThen_ok, storeVar, run_sizeOf' hsz, hc.1, ne_eq, not_true_eq_false, if_false, hst]
        · have hnew := setRow_heap w b vals (vals.toList.take o ++ u.cells.toList ++ vals.toList.drop (o + u.cells.toList.length)).toArray T (0, 0) h2
          refine hI.write (w' := w.setRow b (vals.toList.take o ++ u.cells.toList ++ vals.toList.drop (o + u.cells.toList.length)).toArray) h1 (by simp [World.setRow]) rfl rfl rfl (fun k hk' => heap_setRow_ne w b k _ hk') _ ?_ ?_ (by rw [h2]; simp) (by rw [hrow]; simp)
          · exact ⟨b, _, h1, hnew, h3.splice hc hfit⟩
          · intro D hD
            obtain ⟨l, k1, _⟩ := hI.lp b D hD
            rw [h2] at k1; cases k1
    · exact H.elim
  · exact H.elim

/-- A new variable of one's own. -/
def aBox (t : TypeId) (x : AV) (h : AH) (K : AV → AH → Prop) : Prop := x.good = true ∧ K (.ptr (some (h.length, 0))) (h ++ [.row x.cells t])

theorem newVar_ok (hI : Inv Γ G h w) {t : TypeId} {cs : List AV} {vals : Array Value} (hv : VRs G cs vals) :
    Inv Γ (G.add h.length w.heap.size) (h ++ [.row cs t]) (w.alloc (.cells vals t)) :=
  hI.alloc _ _ ⟨w.heap.size, vals, Gh.add_same _ _ _, heap_alloc_new w _, hv.mono (hI.add_le _)⟩

theorem box_ok (hI : Inv Γ G h w) {t : TypeId} {x : AV} {u : Value} (hx : VR G x u) {K : AV → AH → Prop} (H : aBox t x h K) : SemOK P Γ G w (Instr.box t u) K :=
  ⟨.pointer (some ⟨w.heap.size, 0, none⟩), w.alloc (.cells u.cells t), G.add h.length w.heap.size, _, _, by simp [Instr.box, newVar, newRow], hI.add_le _,
    newVar_ok hI (hx.cells (AV.good_cells H.1).2), .ptr (Gh.add_same _ _ _), H.2⟩

def aAlloc (P : Program) (t : TypeId) (h : AH) (K : AV → AH → Prop) : Prop :=
  match tzero P t with
  | some z => K (.ptr (some (h.length, 0))) (h ++ [.row (z.cells.toList.map ofV1) t])
  | none => False

theorem alloc_ok (hI : Inv Γ G h w) {t : TypeId} {K : AV → AH → Prop} (H : aAlloc P t h K) : SemOK P Γ G w (Instr.alloc t true (.tuple #[])) K := by
  unfold aAlloc at H
  split at H
  · rename_i z hz
    exact ⟨.pointer (some ⟨w.heap.size, 0, none⟩), w.alloc (.cells z.cells t), G.add h.length w.heap.size, _, _, by simp [Instr.alloc, run_zero' hz, newVar, newRow], hI.add_le _,
      newVar_ok hI (ofV1s_VR G z.cells), .ptr (Gh.add_same _ _ _), H⟩
  · exact H.elim

/-- The address of a field. -/
def aFieldAddr (P : Program) (s : TypeId) (a : AV) (f : Nat) (K : AV → Prop) : Prop :=
  match P.underlying s with
  | some (.struct fields) => match fields[f]? with
    | some fd => (∃ n, tsz P fd.type = some (n + 1)) ∧ (match a with
      | .ptr (some (i, o)) => K (.ptr (some (i, o + fd.offset)))
      | .eptr cs => K (.eptr (cs.drop fd.offset))
      | _ => False)
    | none => False
  | _ => False

theorem VR.eptr_drop {cs : List AV} {b o : Nat} (hv : VR G (.eptr cs) (.pointer (some ⟨b, o, none⟩))) (n : Nat) : VR G (.eptr (cs.drop n)) (.pointer (some ⟨b, o + n, none⟩)) := by
  cases hv with
  | eptr vals hF hv =>
    exact .eptr (fun j => vals (n + j)) (fun j c e => by rw [List.getElem?_drop] at e; rw [show o + n + j = o + (n + j) from by omega]; exact hF _ c e)
      (fun j c e => by rw [List.getElem?_drop] at e; exact hv _ c e)

theorem fieldAt_ok (hI : Inv Γ G h w) {s : TypeId} {a : AV} {v : Value} {f : Nat} (ha : VR G a v) {K : AV → AH → Prop} (H : aFieldAddr P s a f fun v => K v h) : SemOK P Γ G w (Instr.fieldAt s v f) K := by
  unfold aFieldAddr at H
  split at H
  · rename_i fields hs
    split at H
    · rename_i fd hfd
      obtain ⟨⟨n, hn⟩, H⟩ := H
      have hr : ∀ b o, (Instr.fieldAt s (.pointer (some ⟨b, o, none⟩)) f).run P w = .ok (.pointer (some ⟨b, o + fd.offset, none⟩)) w := fun b o => by
        simp [Instr.fieldAt, run_underlying hs, hfd, Instr.sureAddr, fieldPlace, run_sizeOf' hn, Addr.add_lit]
      split at H
      · rename_i i o
        cases ha with
        | ptr hb => exact ⟨_, w, G, _, h, hr _ _, Gh.le.refl G, hI, .ptr hb, H⟩
      · rename_i cs
        cases ha with
        | eptr vals hF hv => exact ⟨_, w, G, _, h, hr _ _, Gh.le.refl G, hI, (VR.eptr vals hF hv).eptr_drop _, H⟩
      · exact H.elim
    · exact H.elim
  · exact H.elim

/-- A part of a struct or an array that is at hand as a value. -/
theorem part_ok {t : TypeId} {cs : List AV} {vals : Array Value} (hv : VRs G cs vals) (off : Nat) {k : AV → Prop} (H : aLd P t (cs.drop off) k) (w : World) :
    ∃ u av, (part t vals off).run P w = .ok u w ∧ VR G av u ∧ k av := by
  unfold aLd at H
  split at H
  · exact H.elim
  · rename_i d hd
    split at H
    · rename_i ha
      split at H
      · rename_i n hn
        obtain ⟨hle, hk⟩ := H
        refine ⟨.agg (vals.extract off (off + n)), .agg ((cs.drop off).take n), ?_, ?_, hk⟩
        · simp only [part, Sem.run_bind, run_isAgg' hd, ha, Result.andThen_ok, if_true, run_sizeOf' hn, Sem.run_pure]
        · have hs : VRs G ((cs.drop off).take n) (vals.extract off (off + n)) :=
            VRs.of_get (by have := hv.1; simp at hle ⊢; omega) fun j c v e e' => by
              rw [List.getElem?_take] at e
              split at e
              · rename_i hj
                rw [List.getElem?_drop] at e
                obtain ⟨u, k1, k2⟩ := hv.get e
                rw [Array.getElem?_extract] at e'
                split at e'
                · rw [k1] at e'; cases e'; exact k2
                · cases e'
              · cases e
          exact .agg hs.1 hs.2
      · exact H.elim
    · rename_i ha
      split at H
      · rename_i c rest hc
        have e : cs[off]? = some c := by
          have : (cs.drop off)[0]? = some c := by rw [hc]; rfl
          rwa [List.getElem?_drop, Nat.add_zero] at this
        obtain ⟨v, k1, k2⟩ := hv.get e
        simp only [Bool.not_eq_true] at ha
        exact ⟨v, c, by simp only [part, Sem.run_bind, run_isAgg' hd, ha, Result.andThen_ok, Bool.false_eq_true, if_false, k1, Sem.run_pure], k2, H⟩
      · exact H.elim

def aField (P : Program) (t : TypeId) (x : AV) (f : Nat) (K : AV → Prop) : Prop :=
  match P.underlying t with
  | some (.struct fields) => match fields[f]?, x with
    | some fd, .agg cs => aLd P fd.type (cs.drop fd.offset) K
    | _, _ => False
  | _ => False

theorem field_ok (hI : Inv Γ G h w) {t : TypeId} {x : AV} {u : Value} {f : Nat} (hx : VR G x u) {K : AV → AH → Prop} (H : aField P t x f fun v => K v h) : SemOK P Γ G w (Instr.field t u f) K := by
  unfold aField at H
  split at H
  · rename_i fields hs
    split at H
    · rename_i fd cs hfd
      cases hx with
      | agg hl hv =>
        obtain ⟨u, av, r, hv', hk⟩ := part_ok (P := P) ⟨hl, hv⟩ fd.offset H w
        exact ⟨u, w, G, av, h, by simp [Instr.field, run_underlying hs, hfd, asAgg, r], Gh.le.refl G, hI, hv', hk⟩
    · exact H.elim
  · exact H.elim

/-- A slice that can be read: its elements, each with its cells. -/
def aIndexAddr (P : Program) (t : TypeId) (x i : AV) (K : AV → Prop) : Prop :=
  match i with
  | .int _ n => match P.underlying t with
    | some (.slice e) => (match tsz P e with
      | some sz => (match x with
        | .sl rows _ => sz ≠ 0 ∧ 0 ≤ n ∧ ∃ r, rows[n.toNat]? = some r ∧ r.cells.length = sz ∧ K (.eptr r.cells)
        | .ms j off len _ _ => 0 ≤ n ∧ n < len ∧ K (.ptr (some (j, off + n.toNat * sz)))
        | _ => False)
      | none => False)
    | some (.array len e) => (match tsz P e with
      | some sz => 0 ≤ n ∧ n < len ∧ (match x with
        | .ptr (some (j, o)) => K (.ptr (some (j, o + n.toNat * sz)))
        | .eptr cs => K (.eptr (cs.drop (n.toNat * sz)))
        | _ => False)
      | none => False)
    | _ => False
  | _ => False

theorem indexAt_ok (hI : Inv Γ G h w) {t : TypeId} {x i : AV} {v u : Value} (hx : VR G x v) (hi : VR G i u) {K : AV → AH → Prop} (H : aIndexAddr P t x i fun v => K v h) : SemOK P Γ G w (Instr.indexAt t v u) K := by
  unfold aIndexAddr at H
  split at H
  · rename_i k n
    cases hi with
    | int =>
      split at H
      · rename_i e ht
        split at H
        · rename_i sz hsz
          split at H
          · rename_i rows own
            obtain ⟨hz, hn, r, hr, hrl, hk⟩ := H
            have hlt : n.toNat < rows.length := (List.getElem?_eq_some_iff.1 hr).1
            cases hx with
            | sl vals hcap hnil hs hF hv hown =>
              rename_i a cap sz'
              have hszz : sz' = sz := (hs _ r hr).symm.trans hrl
              subst hszz
              cases ha : a with
              | none => have := hnil ha; omega
              | some ad =>
                obtain ⟨ab, ao, asp⟩ := ad
                obtain ⟨c, hc⟩ : ∃ c, r.cells[0]? = some c := ⟨_, List.getElem?_eq_getElem (by omega)⟩
                obtain ⟨b, o, e1, e2⟩ := hF _ r 0 c hr hc
                rw [ha] at e1; cases e1
                refine ⟨.pointer (some ⟨ab, ao + n.toNat * sz', none⟩), w, G, _, h, ?_, Gh.le.refl G, hI, ?_, hk⟩
                · have : n < (rows.length : Int) := by omega
                  simp [Instr.indexAt, asIntOf, run_underlying ht, run_sizeOf' hsz, hn, this, Addr.add_lit]
                · refine .eptr (fun j => vals n.toNat j) (fun j c' e => ?_) (fun j c' e => hv _ r j c' hr e)
                  obtain ⟨b', o', e1', e2'⟩ := hF _ r j c' hr e
                  rw [ha] at e1'; cases e1'; exact e2'
          · rename_i j off len cap sz'
            obtain ⟨hn, hlt, hk⟩ := H
            cases hx with
            | ms hb =>
              exact ⟨_, w, G, _, h, by simp [Instr.indexAt, asIntOf, run_underlying ht, run_sizeOf' hsz, hn, hlt, Addr.add_lit], Gh.le.refl G, hI, .ptr hb, hk⟩
          · exact H.elim
        · exact H.elim
      · rename_i len e ht
        split at H
        · rename_i sz hsz
          obtain ⟨hn, hlt, H⟩ := H
          split at H
          · cases hx with
            | ptr hb => exact ⟨_, w, G, _, h, by simp [Instr.indexAt, asIntOf, run_underlying ht, run_sizeOf' hsz, hn, hlt, Addr.add_lit, Instr.sureAddr], Gh.le.refl G, hI, .ptr hb, H⟩
          · cases hx with
            | eptr vals hF hv => exact ⟨_, w, G, _, h, by simp [Instr.indexAt, asIntOf, run_underlying ht, run_sizeOf' hsz, hn, hlt, Addr.add_lit, Instr.sureAddr], Gh.le.refl G, hI, (VR.eptr vals hF hv).eptr_drop _, H⟩
          · exact H.elim
        · exact H.elim
      · exact H.elim
  · exact H.elim

end
end Go.Abs

/- What the model's operations on numbers, strings, slices and aggregates do, seen abstractly. It says nothing of any program; no conditions. -/
set_option linter.unusedSimpArgs false
set_option linter.unusedVariables false
namespace Go.Abs
open Go Go.RowKit

section
variable {P : Program} {Γ : Nat → Option (List AV)} {G : Gh} {h : AH} {w : World} {N : Nat} {σ : Tm}

theorem SemOK.pure' (hI : Inv Γ G h w) {s : Sem Value} {u : Value} {av : AV} {K : AV → AH → Prop} (hr : s.run P w = .ok u w) (hv : VR G av u) (hk : K av h) : SemOK P Γ G w s K :=
  ⟨u, w, G, av, h, hr, Gh.le.refl G, hI, hv, hk⟩

/-- Bits. -/
def bitsOp (op : BinOp) (k : IntKind) (x y : Int) : Int :=
  let a := BitVec.ofInt k.bits x
  let b := BitVec.ofInt k.bits y
  match op with
  | .and => k.wrap (a &&& b).toNat
  | .or => k.wrap (a ||| b).toNat
  | .xor => k.wrap (a ^^^ b).toNat
  | .andNot => k.wrap (a &&& ~~~b).toNat
  | _ => 0

/-- Two integers of one kind, or a shift. -/
def aInt (op : BinOp) (k : IntKind) (a : Int) (k' : IntKind) (b : Int) (K : AV → Prop) : Prop :=
  match op with
  | .shl => 0 ≤ b ∧ K (.int k (k.wrap (a * 2 ^ (min b.toNat k.bits))))
  | .shr => 0 ≤ b ∧ K (.int k (a.fdiv (2 ^ (min b.toNat k.bits))))
  | .add => k = k' ∧ K (.int k (k.wrap (a + b)))
  | .sub => k = k' ∧ K (.int k (k.wrap (a - b)))
  | .mul => k = k' ∧ K (.int k (k.wrap (a * b)))
  | .quo => k = k' ∧ b ≠ 0 ∧ K (.int k (k.wrap (a.tdiv b)))
  | .rem => k = k' ∧ b ≠ 0 ∧ K (.int k (a.tmod b))
  | .eql => k = k' ∧ K (.bool (decide (a = b)))
  | .neq => k = k' ∧ K (.bool (decide (a ≠ b)))
  | .lss => k = k' ∧ K (.bool (decide (a < b)))
  | .leq => k = k' ∧ K (.bool (decide (a ≤ b)))
  | .gtr => k = k' ∧ K (.bool (decide (b < a)))
  | .geq => k = k' ∧ K (.bool (decide (b ≤ a)))
  | op => k = k' ∧ K (.int k (bitsOp op k a b))

/-- Two strings. -/
def aStr (op : BinOp) (a b : ByteArray) (K : AV → Prop) : Prop :=
  match op with
  | .add => a.size + b.size ≤ 9223372036854775807 ∧ K (.str (a ++ b))
  | .eql => K (.bool (a.toList == b.toList))
  | .neq => K (.bool (!(a.toList == b.toList)))
  | .lss => K (.bool (Op.bytesLess a.toList b.toList))
  | .leq => K (.bool (Op.bytesLess a.toList b.toList || a.toList == b.toList))
  | .gtr => K (.bool (!(Op.bytesLess a.toList b.toList || a.toList == b.toList)))
  | .geq => K (.bool (!(Op.bytesLess a.toList b.toList)))
  | _ => False

def aBin (P : Program) (op : BinOp) (t : TypeId) (x y : AV) (K : AV → Prop) : Prop :=
  match x, y with
  | .int k a, .int k' b => aInt op k a k' b K
  | .str a, .str b => aStr op a b K
  | .bool a, .bool b => P.underlying t = some .bool ∧ (match op with
      | .eql => K (.bool (a == b))
      | .neq => K (.bool (!(a == b)))
      | _ => False)
  | _, _ => False

theorem run_intOp (op : BinOp) (k : IntKind) (a : Int) (k' : IntKind) (b : Int) (t : TypeId) {K : AV → Prop} (H : aInt op k a k' b K) : ∃ u av, (binOp op t (.int k a) (.int k' b)).run P w = .ok u w ∧ VR G av u ∧ K av := by
  cases op <;> simp only [aInt] at H
  case shl => obtain ⟨h0, hk⟩ := H; exact ⟨_, _, by simp [binOp, Op.shift, show ¬ b < 0 by omega] <;> rfl, .int _ _, hk⟩
  case shr => obtain ⟨h0, hk⟩ := H; exact ⟨_, _, by simp [binOp, Op.shift, show ¬ b < 0 by omega] <;> rfl, .int _ _, hk⟩
  case add => obtain ⟨rfl, hk⟩ := H; exact ⟨_, _, by simp [binOp, Op.intArith] <;> rfl, .int _ _, hk⟩
  case sub => obtain ⟨rfl, hk⟩ := H; exact ⟨_, _, by simp [binOp, Op.intArith] <;> rfl, .int _ _, hk⟩
  case mul => obtain ⟨rfl, hk⟩ := H; exact ⟨_, _, by simp [binOp, Op.intArith] <;> rfl, .int _ _, hk⟩
  case quo => obtain ⟨rfl, h0, hk⟩ := H; exact ⟨_, _, by simp [binOp, Op.intDiv, h0] <;> rfl, .int _ _, hk⟩
  case rem => obtain ⟨rfl, h0, hk⟩ := H; exact ⟨_, _, by simp [binOp, Op.intDiv, h0] <;> rfl, .int _ _, hk⟩
  case eql => obtain ⟨rfl, hk⟩ := H; exact ⟨_, _, by simp only [binOp, Op.intCmp, ne_eq, not_true_eq_false, if_false, Sem.run_pure] <;> rfl, .bool _, hk⟩
  case neq => obtain ⟨rfl, hk⟩ := H; exact ⟨_, _, by simp only [binOp, Op.intCmp, ne_eq, not_true_eq_false, if_false, Sem.run_pure] <;> rfl, by rw [show (a != b) = decide (a ≠ b) from by simp [bne, BEq.beq]]; exact .bool _, hk⟩
  case lss => obtain ⟨rfl, hk⟩ := H; exact ⟨_, _, by simp only [binOp, Op.intCmp, ne_eq, not_true_eq_false, if_false, Sem.run_pure] <;> rfl, .bool _, hk⟩
  case leq => obtain ⟨rfl, hk⟩ := H; exact ⟨_, _, by simp only [binOp, Op.intCmp, ne_eq, not_true_eq_false, if_false, Sem.run_pure] <;> rfl, .bool _, hk⟩
  case gtr => obtain ⟨rfl, hk⟩ := H; exact ⟨_, _, by simp only [binOp, Op.intCmp, ne_eq, not_true_eq_false, if_false, Sem.run_pure] <;> rfl, .bool _, hk⟩
  case geq => obtain ⟨rfl, hk⟩ := H; exact ⟨_, _, by simp only [binOp, Op.intCmp, ne_eq, not_true_eq_false, if_false, Sem.run_pure] <;> rfl, .bool _, hk⟩
  case and => obtain ⟨rfl, hk⟩ := H; exact ⟨_, _, by simp only [binOp, Op.intBits, ne_eq, not_true_eq_false, if_false, Sem.run_pure] <;> rfl, .int _ _, hk⟩
  case or => obtain ⟨rfl, hk⟩ := H; exact ⟨_, _, by simp only [binOp, Op.intBits, ne_eq, not_true_eq_false, if_false, Sem.run_pure] <;> rfl, .int _ _, hk⟩
  case xor => obtain ⟨rfl, hk⟩ := H; exact ⟨_, _, by simp only [binOp, Op.intBits, ne_eq, not_true_eq_false, if_false, Sem.run_pure] <;> rfl, .int _ _, hk⟩
  case andNot => obtain ⟨rfl, hk⟩ := H; exact ⟨_, _, by simp only [binOp, Op.intBits, ne_eq, not_true_eq_false, if_false, Sem.run_pure] <;> rfl, .int _ _, hk⟩

theorem run_strOp (op : BinOp) (a b : ByteArray) (t : TypeId) {K : AV → Prop} (H : aStr op a b K) : ∃ u av, (binOp op t (.string a) (.string b)).run P w = .ok u w ∧ VR G av u ∧ K av := by
  cases op <;> simp only [aStr] at H
  case add =>
    obtain ⟨h0, hk⟩ := H
    have : ¬ (((a.size + b.size : Nat) : Int) > IntKind.i64.max) := by
      have : IntKind.i64.max = 9223372036854775807 := by decide
      rw [this]; omega
    refine ⟨.string (a ++ b), _, ?_, .str _, hk⟩
    simp only [binOp, Op.stringOp]
    rw [if_neg this]; rfl
  all_goals first
    | exact H.elim
    | exact ⟨_, _, by simp only [binOp, Op.stringOp, Sem.run_pure] <;> rfl, .bool _, H⟩

theorem eqGuard_int {op : BinOp} {t : TypeId} {x y : Operand} {k k' : IntKind} {a b : Int} (w : World) : (eqGuard op t x y (.int k a) (.int k' b)).run P w = .ok () w := by
  cases op <;> simp [eqGuard]
theorem eqGuard_str {op : BinOp} {t : TypeId} {x y : Operand} {a b : ByteArray} (w : World) : (eqGuard op t x y (.string a) (.string b)).run P w = .ok () w := by
  cases op <;> simp [eqGuard]
theorem eqGuard_bool {op : BinOp} {t : TypeId} {x y : Operand} {a b : Bool} (w : World) : (eqGuard op t x y (.bool a) (.bool b)).run P w = .ok () w := by
  cases op <;> simp [eqGuard]
theorem equal_depth (t : TypeId) (x y : Value) : Op.equal t x y = Op.equalIn (9999 + 1) t x y := by unfold Op.equal; rfl
theorem equalIn_bool (d : Nat) {t : TypeId} {a b : Bool} (ht : P.underlying t = some .bool) (w : World) : (Op.equalIn (d + 1) t (.bool a) (.bool b)).run P w = .ok (a == b) w := by
  simp only [Op.equalIn, Sem.run_bind, run_underlying ht, Result.andThen_ok, Sem.run_pure]
theorem equal_bool {t : TypeId} {a b : Bool} (ht : P.underlying t = some .bool) (w : World) : (Op.equal t (.bool a) (.bool b)).run P w = .ok (a == b) w := by
  rw [equal_depth]; exact equalIn_bool 9999 ht w

theorem bin_ok (hI : Inv Γ G h w) {op : BinOp} {t : TypeId} {ox oy : Operand} {x y : AV} {u v : Value} (hx : VR G x u) (hy : VR G y v) {K : AV → AH → Prop} (H : aBin P op t x y fun v => K v h) :
    SemOK P Γ G w (do eqGuard op t ox oy u v; binOp op t u v) K := by
  unfold aBin at H
  split at H
  · cases hx; cases hy
    obtain ⟨r, av, h1, h2, h3⟩ := run_intOp (P := P) (w := w) (G := G) op _ _ _ _ t H
    exact .pure' hI (by simp only [Sem.run_bind, eqGuard_int, Result.andThen_ok, h1]) h2 h3
  · cases hx; cases hy
    obtain ⟨r, av, h1, h2, h3⟩ := run_strOp (P := P) (w := w) (G := G) op _ _ t H
    exact .pure' hI (by simp only [Sem.run_bind, eqGuard_str, Result.andThen_ok, h1]) h2 h3
  · cases hx; cases hy
    rename_i a b
    obtain ⟨ht, H⟩ := H
    have he := equal_bool (a := a) (b := b) ht w
    cases op <;> simp only at H <;> first
      | exact H.elim
      | exact .pure' hI (by simp only [Sem.run_bind, eqGuard_bool, Result.andThen_ok, binOp, he, Sem.run_pure]) (.bool _) H
  · exact H.elim

def aUn (op : UnOp) (x : AV) (K : AV → Prop) : Prop :=
  match op, x with
  | .not, .bool b => K (.bool (!b))
  | .neg, .int k n => K (.int k (k.wrap (0 - n)))
  | .xor, .int k n => K (.int k (bitsOp .xor k (if k.signed then -1 else k.max) n))
  | _, _ => False

theorem un_ok (hI : Inv Γ G h w) {op : UnOp} {x : AV} {u : Value} (hx : VR G x u) {K : AV → AH → Prop} (H : aUn op x fun v => K v h) : SemOK P Γ G w (Op.unary op u) K := by
  unfold aUn at H
  split at H
  · cases hx; exact .pure' hI (by simp [Op.unary] <;> rfl) (.bool _) H
  · cases hx; exact .pure' hI (by simp [Op.unary, Op.intArith] <;> rfl) (.int _ _) H
  · cases hx; exact .pure' hI (by simp only [Op.unary, Op.intBits, Sem.run_pure] <;> rfl) (.int _ _) H
  · exact H.elim

def aConv (P : Program) (src dst : TypeId) (x : AV) (K : AV → Prop) : Prop :=
  match P.underlying src, P.underlying dst, x with
  | some _, some (.int k), .int _ n => K (.int k (k.wrap n))
  | some _, some .string, .str s => K (.str s)
  | _, _, _ => False

theorem conv_ok (hI : Inv Γ G h w) {src dst : TypeId} {x : AV} {u : Value} (hx : VR G x u) {K : AV → AH → Prop} (H : aConv P src dst x fun v => K v h) : SemOK P Γ G w (convert src dst u) K := by
  unfold aConv at H
  split at H
  · rename_i d k _ n h1 h2
    cases hx; exact .pure' hI (by simp [convert, run_underlying h1, run_underlying h2, Conv.intToInt] <;> rfl) (.int _ _) H
  · rename_i d s h1 h2
    cases hx; exact .pure' hI (by simp [convert, run_underlying h1, run_underlying h2] <;> rfl) (.str _) H
  · exact H.elim

def aExtract (x : AV) (i : Nat) (K : AV → Prop) : Prop :=
  match x with
  | .tuple vs => match vs[i]? with
    | some v => K v
    | none => False
  | _ => False

theorem extract_ok (hI : Inv Γ G h w) {x : AV} {u : Value} {i : Nat} (hx : VR G x u) {K : AV → AH → Prop} (H : aExtract x i fun v => K v h) : SemOK P Γ G w (Instr.extract u i) K := by
  unfold aExtract at H
  split at H
  · split at H
    · rename_i v hv
      cases hx with
      | tuple hl hvs =>
        obtain ⟨y, h1, h2⟩ := VRs.get ⟨hl, hvs⟩ hv
        exact .pure' hI (by simp [Instr.extract, h1] <;> rfl) h2 H
    · exact H.elim
  · exact H.elim

/-- Filling the places of a struct or an array. -/
def aFill (place : Nat → Option (Nat × Nat)) (cells : List AV) : List (Nat × AV) → (List AV → Prop) → Prop
  | [], k => k cells
  | (i, x) :: r, k => match place i with
    | none => False
    | some (o, n) => x.cells.length = n ∧ (x.one = true ∨ ∃ cs, x = .agg cs) ∧ o + n ≤ cells.length ∧ aFill place (splice cells o x.cells) r k

theorem foldl_set (xs : List Value) : ∀ (k : Nat) (cur : Array Value) (o : Nat), o + k + xs.length ≤ cur.size →
    (xs.zipIdx k).foldl (fun (cs : Array Value) (p : Value × Nat) => cs.setIfInBounds (o + p.2) p.1) cur = (cur.toList.take (o + k) ++ xs ++ cur.toList.drop (o + k + xs.length)).toArray := by
  induction xs with
  | nil => intro k cur o _; simp
  | cons x xs ih =>
    intro k cur o hl
    simp only [List.length_cons] at hl
    rw [List.zipIdx_cons, List.foldl_cons, ih (k + 1) _ o (by simp; omega)]
    apply Array.ext'
    have := list_seg_step cur.toList (o + k) x xs (by simp; omega)
    simpa [Array.toList_setIfInBounds, Nat.add_assoc] using this

theorem fill_ok {place : Nat → Option (Nat × Nat)} : ∀ (parts : List (Nat × AV)) (vs : List (Nat × Value)) (cells : List AV) (vals : Array Value), VRs G cells vals →
    parts.length = vs.length → (∀ (j : Nat) (p : Nat × AV) (q : Nat × Value), parts[j]? = some p → vs[j]? = some q → p.1 = q.1 ∧ VR G p.2 q.2) → ∀ {k : List AV → Prop}, aFill place cells parts k →
    ∃ out vals', Instr.fill place vals vs = some vals' ∧ VRs G out vals' ∧ k out := by
  intro parts
  induction parts with
  | nil =>
    intro vs cells vals hv hl _ k H
    cases vs with
    | nil => exact ⟨cells, vals, rfl, hv, H⟩
    | cons _ _ => simp at hl
  | cons p r ih =>
    intro vs cells vals hv hl hp k H
    cases vs with
    | nil => simp at hl
    | cons q s =>
      obtain ⟨i, x⟩ := p
      obtain ⟨i', v⟩ := q
      obtain ⟨e, hxv⟩ := hp 0 _ _ rfl rfl
      simp only at e hxv
      subst e
      unfold aFill at H
      split at H
      · exact H.elim
      · rename_i o n hpl
        obtain ⟨h1, h2, h3, H⟩ := H
        have hc := hxv.cells h2
        have hcs : v.cells.size = n := by rw [← hc.1]; exact h1
        have hvs := hv.splice (o := o) hc (by omega)
        obtain ⟨out, vals', f1, f2, f3⟩ := ih s _ _ hvs (by simpa using hl) (fun j p q e1 e2 => hp (j + 1) p q e1 e2) H
        refine ⟨out, vals', ?_, f2, f3⟩
        have hfold : (v.cells.zipIdx.foldl (fun cs (p : Value × Nat) => cs.setIfInBounds (o + p.2) p.1) vals) = (vals.toList.take o ++ v.cells.toList ++ vals.toList.drop (o + v.cells.toList.length)).toArray := by
          rw [← Array.foldl_toList, Array.toList_zipIdx]
          have := foldl_set v.cells.toList 0 vals o (by have := hv.1; simp; omega)
          simpa using this
        simp only [Instr.fill, hpl, hcs]
        rw [if_neg (by have := hv.1; simp; omega)]
        rw [show (fun (cs : Array Value) (x : Value × Nat) => match x with | (c, j) => cs.setIfInBounds (o + j) c) = (fun cs (p : Value × Nat) => cs.setIfInBounds (o + p.2) p.1) from rfl, hfold]
        exact f1

/-- The parts of a literal. -/
def evParts (Γ : Nat → Option (List AV)) (σ : Tm) (parts : Array (Nat × Operand)) : List (Nat × AV) := parts.toList.map fun (i, x) => (i, ev Γ σ x)

def aPlaces (P : Program) (fields : List Field) : Option (List (Nat × Nat)) := fields.mapM fun f => (tsz P f.type).map fun n => (f.offset, n)

def aBuild (P : Program) (t : TypeId) (parts : List (Nat × AV)) (K : AV → Prop) : Prop :=
  match P.underlying t, tzero P t with
  | some (.struct fields), some z => (match aPlaces P fields.toList with
    | some pl => aFill (fun i => pl[i]?) (z.cells.toList.map ofV1) parts fun cs => K (.agg cs)
    | none => False)
  | some (.array _ e), some z => (match tsz P e with
    | some n => aFill (fun i => some (i * n, n)) (z.cells.toList.map ofV1) parts fun cs => K (.agg cs)
    | none => False)
  | _, _ => False

theorem mapM_places {fields : List Field} : ∀ {pl : List (Nat × Nat)}, aPlaces P fields = some pl → ∀ w, (fields.mapM (fun f => do pure (f.offset, ← sizeOf f.type) : Field → Sem (Nat × Nat))).run P w = .ok pl w := by
  induction fields with
  | nil => intro pl e w; simp [aPlaces] at e; subst e; rfl
  | cons f r ih =>
    intro pl e w
    simp only [aPlaces, List.mapM_cons, Option.bind_eq_bind, Option.bind_eq_some_iff, Option.map_eq_some_iff, Option.pure_def, Option.some.injEq] at e
    obtain ⟨a, ⟨n, hn, rfl⟩, pl', hpl, rfl⟩ := e
    simp only [List.mapM_cons, Sem.run_bind, run_sizeOf' hn, Result.andThen_ok, Sem.run_pure, ih hpl w]

theorem build_ok (hI : Inv Γ G h w) {t : TypeId} {parts : Array (Nat × Operand)} {a : Act} (ht : TR N G σ a.tmps) {K : AV → AH → Prop} (H : aBuild P t (evParts Γ σ parts) fun v => K v h) :
    SemOK P Γ G w (Instr.build t (parts.map fun (i, x) => (i, a.eval x))) K := by
  have hlen : (evParts Γ σ parts).length = (parts.map fun (i, x) => (i, a.eval x)).toList.length := by simp [evParts]
  have hrel : ∀ (j : Nat) (p : Nat × AV) (q : Nat × Value), (evParts Γ σ parts)[j]? = some p → (parts.map fun (i, x) => (i, a.eval x)).toList[j]? = some q → p.1 = q.1 ∧ VR G p.2 q.2 := fun j p q e1 e2 => by
    simp only [evParts, List.getElem?_map, Option.map_eq_some_iff, Array.toList_map] at e1 e2
    obtain ⟨⟨i, x⟩, h1, rfl⟩ := e1
    obtain ⟨⟨i', x'⟩, h2, rfl⟩ := e2
    rw [h1] at h2; cases h2
    exact ⟨rfl, ev_VR hI ht x⟩
  unfold aBuild at H
  split at H
  · rename_i fields z hd hz
    split at H
    · rename_i pl hpl
      obtain ⟨out, vals', f1, f2, f3⟩ := fill_ok (G := G) (evParts Γ σ parts) (parts.map fun (i, x) => (i, a.eval x)).toList _ _ (ofV1s_VR G z.cells) hlen hrel H
      have hm : (fields.mapM (fun f => do pure (f.offset, ← sizeOf f.type) : Field → Sem (Nat × Nat))).run P w = .ok pl.toArray w := by
        rw [Array.mapM_eq_mapM_toList, Sem.run_map, mapM_places hpl w]; rfl
      refine .pure' hI (u := .agg vals') ?_ (.agg f2.1 f2.2) f3
      simp only [Instr.build, Sem.run_bind, run_zero' hz, Result.andThen_ok, run_underlying hd, hm, List.getElem?_toArray, f1, Sem.run_pure]
    · exact H.elim
  · rename_i len e z hd hz
    split at H
    · rename_i n hn
      obtain ⟨out, vals', f1, f2, f3⟩ := fill_ok (G := G) (evParts Γ σ parts) (parts.map fun (i, x) => (i, a.eval x)).toList _ _ (ofV1s_VR G z.cells) hlen hrel H
      refine .pure' hI (u := .agg vals') ?_ (.agg f2.1 f2.2) f3
      simp only [Instr.build, Sem.run_bind, run_zero' hz, Result.andThen_ok, run_underlying hd, run_sizeOf' hn, f1, Sem.run_pure]
    · exact H.elim
  · exact H.elim

end
end Go.Abs

/- Slices, seen abstractly: literals, cuts, append. It says nothing of any program; no conditions. -/
set_option linter.unusedSimpArgs false
set_option linter.unusedVariables false
namespace Go.Abs
open Go Go.RowKit

/-- Elements of n cells each, all of them storable. -/
def RowsOK (n : Nat) (rows : List AV) : Prop := ∀ r ∈ rows, r.cells.length = n ∧ ∀ c ∈ r.cells, c.one = true

theorem RowsOK.nil (n : Nat) : RowsOK n [] := fun r h => by simp at h
theorem RowsOK.append {n : Nat} {a b : List AV} (h : RowsOK n a) (k : RowsOK n b) : RowsOK n (a ++ b) := fun r hr => (List.mem_append.1 hr).elim (h r) (k r)
theorem RowsOK.cons {n : Nat} {a : AV} {b : List AV} (h1 : a.cells.length = n) (h2 : ∀ c ∈ a.cells, c.one = true) (k : RowsOK n b) : RowsOK n (a :: b) := fun r hr => by
  rcases List.mem_cons.1 hr with rfl | hr
  · exact ⟨h1, h2⟩
  · exact k r hr
theorem RowsOK.take {n : Nat} {a : List AV} (h : RowsOK n a) (k : Nat) : RowsOK n (a.take k) := fun r hr => h r (List.mem_of_mem_take hr)
theorem RowsOK.drop {n : Nat} {a : List AV} (h : RowsOK n a) (k : Nat) : RowsOK n (a.drop k) := fun r hr => h r (List.mem_of_mem_drop hr)
theorem RowsOK.map {α : Type} {n : Nat} {f : α → AV} (hf : ∀ x, (f x).cells.length = n ∧ ∀ c ∈ (f x).cells, c.one = true) (l : List α) : RowsOK n (l.map f) := fun r hr => by
  obtain ⟨x, _, rfl⟩ := List.mem_map.1 hr
  exact hf x
theorem RowsOK.int {k : IntKind} (l : List Int) : RowsOK 1 (l.map (AV.int k)) := RowsOK.map (f := AV.int k) (fun _ => ⟨rfl, fun c hc => by simp [AV.cells] at hc; subst hc; rfl⟩) l
theorem RowsOK.bool (l : List Bool) : RowsOK 1 (l.map AV.bool) := RowsOK.map (f := AV.bool) (fun _ => ⟨rfl, fun c hc => by simp [AV.cells] at hc; subst hc; rfl⟩) l

/-- All cells of some elements, in order. -/
def flat (rows : List AV) : List AV := rows.flatMap AV.cells

theorem flat_cons (r : AV) (rows : List AV) : flat (r :: rows) = r.cells ++ flat rows := by simp [flat]
theorem flat_append (a b : List AV) : flat (a ++ b) = flat a ++ flat b := by simp [flat]
theorem flat_length {n : Nat} : ∀ {rows : List AV}, (∀ r ∈ rows, r.cells.length = n) → (flat rows).length = rows.length * n
  | [], _ => by simp [flat]
  | r :: rows, h => by
    rw [flat_cons, List.length_append, h r (by simp), flat_length (fun x hx => h x (by simp [hx])), List.length_cons, Nat.add_mul, Nat.one_mul, Nat.add_comm]
theorem flat_get {n : Nat} : ∀ {rows : List AV}, (∀ r ∈ rows, r.cells.length = n) → ∀ (k : Nat) (r : AV) (j : Nat), rows[k]? = some r → j < n → (flat rows)[k * n + j]? = r.cells[j]?
  | [], _, k, r, j, e, _ => by simp at e
  | r0 :: rows, h, k, r, j, e, hj => by
    have h0 := h r0 (by simp)
    rw [flat_cons]
    cases k with
    | zero =>
      simp at e; subst e
      rw [Nat.zero_mul, Nat.zero_add, List.getElem?_append_left (by omega)]
    | succ k =>
      simp at e
      rw [List.getElem?_append_right (by rw [h0, Nat.add_mul]; omega), h0, Nat.add_mul, Nat.one_mul, show k * n + n + j - n = k * n + j from by omega]
      exact flat_get (fun x hx => h x (by simp [hx])) k r j e hj

theorem idx_lt {k n j m : Nat} (hk : k < m) (hj : j < n) : k * n + j < m * n := by
  have : (k + 1) * n ≤ m * n := Nat.mul_le_mul_right n hk
  rw [Nat.add_mul, Nat.one_mul] at this
  omega

section
variable {P : Program} {Γ : Nat → Option (List AV)} {G : Gh} {h : AH} {w : World} {N : Nat} {σ : Tm}

/-- The cells behind a slice that is a list. -/
theorem VR.flatCells (hI : Inv Γ G h w) {rows : List AV} {own : Own} {a : Option Addr} {len cap n : Nat} (hv : VR G (.sl rows own) (.slice a len cap)) (hr : ∀ r ∈ rows, r.cells.length = n) :
    ∃ olds : List Value, olds.length = rows.length * n ∧ VRs G (flat rows) olds.toArray ∧
      ∀ w' : World, w'.heap = w.heap → (Builtin.firstCells n rows.length (.slice a len cap)).run P w' = .ok olds.toArray w' := by
  cases hv with
  | sl vals hcap hnil hsz hF hv hown =>
    rename_i sz
    by_cases he : rows = []
    · subst he
      refine ⟨[], by simp, VRs.nil G, fun w' _ => ?_⟩
      cases a <;> simp [Builtin.firstCells, loadCells, loadCellsFrom]
    · have hlen : 0 < rows.length := List.length_pos_iff.2 he
      obtain ⟨r0, hr0⟩ : ∃ r0, rows[0]? = some r0 := ⟨_, List.getElem?_eq_getElem hlen⟩
      have hs : sz = n := (hsz 0 r0 hr0).symm.trans (hr r0 (List.mem_of_getElem? hr0))
      subst hs
      cases ha : a with
      | none => have := hnil ha; omega
      | some ad =>
        obtain ⟨ab, ao, asp⟩ := ad
        have hfl := flat_length hr
        by_cases hz : sz = 0
        · subst hz
          refine ⟨[], by simp, ⟨by simp [hfl], fun j c e => by have := (List.getElem?_eq_some_iff.1 e).1; omega⟩, fun w' _ => ?_⟩
          simp [Builtin.firstCells, loadCells, loadCellsFrom]
        · have hsp : asp = none := by
            obtain ⟨c, hc⟩ : ∃ c, r0.cells[0]? = some c := ⟨_, List.getElem?_eq_getElem (by rw [hr r0 (List.mem_of_getElem? hr0)]; omega)⟩
            obtain ⟨b, o, e1, _⟩ := hF 0 r0 0 c hr0 hc
            rw [ha] at e1; cases e1; rfl
          subst hsp
          have hcell : ∀ q, q < rows.length * sz → ∃ c, (flat rows)[q]? = some c ∧ w.cell? ⟨ab, ao + q, none⟩ = some (vals (q / sz) (q % sz)) ∧ VR G c (vals (q / sz) (q % sz)) := fun q hq => by
            have hk : q / sz < rows.length := Nat.div_lt_of_lt_mul (by rw [Nat.mul_comm]; exact hq)
            have hj : q % sz < sz := Nat.mod_lt _ (by omega)
            obtain ⟨r, hrr⟩ : ∃ r, rows[q / sz]? = some r := ⟨_, List.getElem?_eq_getElem hk⟩
            obtain ⟨c, hc⟩ : ∃ c, r.cells[q % sz]? = some c := ⟨_, List.getElem?_eq_getElem (by rw [hr r (List.mem_of_getElem? hrr)]; exact hj)⟩
            have hqq : q / sz * sz + q % sz = q := by rw [Nat.mul_comm]; exact Nat.div_add_mod q sz
            obtain ⟨b, o, e1, e2⟩ := hF _ r _ c hrr hc
            rw [ha] at e1; cases e1
            refine ⟨c, ?_, ?_, hv _ r _ c hrr hc⟩
            · have := flat_get hr _ r _ hrr hj
              rw [hqq] at this; rw [this]; exact hc
            · rw [show ao + q = ao + q / sz * sz + q % sz from by omega]
              exact hI.fix _ _ _ e2
          refine ⟨(List.range (rows.length * sz)).map fun q => vals (q / sz) (q % sz), by simp, VRs.of_get (by simp [hfl]) fun j c v e e' => ?_, fun w' hw' => ?_⟩
          · have hj : j < rows.length * sz := by have := (List.getElem?_eq_some_iff.1 e).1; omega
            obtain ⟨c', h1, _, h3⟩ := hcell j hj
            rw [h1] at e; cases e
            simp [hj] at e'
            subst e'; exact h3
          · have hr' := run_loadCells (P := P) w' ⟨ab, ao, none⟩ (rows.length * sz) (fun q => vals (q / sz) (q % sz)) (fun q hq => by
              obtain ⟨_, _, h2, _⟩ := hcell q hq
              rw [Addr.add_lit, cell_eq (w := w) (by rw [hw'])]; exact h2)
            simpa [Builtin.firstCells] using hr'

/-- One cell behind a slice that is a list. -/
theorem VR.slF {rows : List AV} {own : Own} {b o len cap n : Nat} (hv : VR G (.sl rows own) (.slice (some ⟨b, o, none⟩) len cap)) (hr : ∀ r ∈ rows, r.cells.length = n) {q : Nat} (hq : q < rows.length * n) :
    ∃ c v, (Abs.flat rows)[q]? = some c ∧ G.F b (o + q) = some v ∧ VR G c v := by
  cases hv with
  | sl vals hcap hnil hsz hF hv hown =>
    have hn : n ≠ 0 := fun e => by subst e; omega
    have hk : q / n < rows.length := Nat.div_lt_of_lt_mul (by rw [Nat.mul_comm]; exact hq)
    have hj : q % n < n := Nat.mod_lt _ (by omega)
    obtain ⟨r, hrr⟩ : ∃ r, rows[q / n]? = some r := ⟨_, List.getElem?_eq_getElem hk⟩
    obtain ⟨c, hc⟩ : ∃ c, r.cells[q % n]? = some c := ⟨_, List.getElem?_eq_getElem (by rw [hr r (List.mem_of_getElem? hrr)]; exact hj)⟩
    have hqq : q / n * n + q % n = q := by rw [Nat.mul_comm]; exact Nat.div_add_mod q n
    have hs := (hsz _ r hrr).symm.trans (hr r (List.mem_of_getElem? hrr))
    subst hs
    obtain ⟨b', o', e1, e2⟩ := hF _ r _ c hrr hc
    cases e1
    refine ⟨c, _, ?_, ?_, hv _ r _ c hrr hc⟩
    · have := flat_get hr _ r _ hrr hj
      rw [hqq] at this; rw [this]; exact hc
    · rw [show o + q = o + q / _ * _ + q % _ from by rw [Nat.add_assoc, hqq]]
      exact e2

/-- A slice over cells that are fixed. -/
theorem VR.sl_of_flat {rows : List AV} {own : Own} {b o cap n : Nat} {vals : Nat → Value} (hr : ∀ r ∈ rows, r.cells.length = n) (hcap : rows.length ≤ cap)
    (hF : ∀ q, q < rows.length * n → G.F b (o + q) = some (vals q)) (hv : ∀ q c, (flat rows)[q]? = some c → VR G c (vals q)) (hown : OwnR G rows (some ⟨b, o, none⟩) cap n own) :
    VR G (.sl rows own) (.slice (some ⟨b, o, none⟩) rows.length cap) := by
  have hlt : ∀ (k : Nat) (r : AV) (j : Nat) (c : AV), rows[k]? = some r → r.cells[j]? = some c → k < rows.length ∧ j < n := fun k r j c e e' => by
    have h1 := (List.getElem?_eq_some_iff.1 e).1
    have h2 := (List.getElem?_eq_some_iff.1 e').1
    rw [hr r (List.mem_of_getElem? e)] at h2
    exact ⟨h1, h2⟩
  refine .sl (sz := n) (fun k j => vals (k * n + j)) hcap (fun e => by cases e) (fun k r e => hr r (List.mem_of_getElem? e)) (fun k r j c e e' => ⟨b, o, rfl, ?_⟩) (fun k r j c e e' => ?_) hown
  · obtain ⟨h1, h2⟩ := hlt k r j c e e'
    rw [Nat.add_assoc]
    exact hF _ (idx_lt h1 h2)
  · obtain ⟨h1, h2⟩ := hlt k r j c e e'
    exact hv _ c (by rw [flat_get hr k r j e h2]; exact e')

/-! ### Literals of slices -/
def aBuildSlice (P : Program) (t : TypeId) (len : Nat) (parts : List (Nat × AV)) (K : AV → Prop) : Prop :=
  match P.underlying t with
  | some (.slice e) => (match tsz P e, tzero P e with
    | some n, some z => n ≠ 0 ∧ z.cells.size = n ∧ len * n ≤ 16777216 ∧ parts.map (·.1) = List.range len ∧ (∀ p ∈ parts, p.2.cells.length = n ∧ (p.2.one = true ∨ ∃ cs, p.2 = .agg cs)) ∧ K (.sl (parts.map (·.2)) .full)
    | _, _ => False)
  | _ => False

theorem aFill_rows {n : Nat} : ∀ (parts : List (Nat × AV)) (i0 : Nat) (cells : List AV), (∀ k p, parts[k]? = some p → p.1 = i0 + k) → (∀ p ∈ parts, p.2.cells.length = n ∧ (p.2.one = true ∨ ∃ cs, p.2 = .agg cs)) →
    (i0 + parts.length) * n ≤ cells.length → ∀ {k : List AV → Prop},
    (∀ out : List AV, out.length = cells.length → (∀ q, q < i0 * n → out[q]? = cells[q]?) → (∀ j p, parts[j]? = some p → ∀ q, q < n → out[(i0 + j) * n + q]? = p.2.cells[q]?) → k out) → aFill (fun i => some (i * n, n)) cells parts k := by
  intro parts
  induction parts with
  | nil => intro i0 cells _ _ _ k hk; exact hk cells rfl (fun _ _ => rfl) (fun j p e => by simp at e)
  | cons p r ih =>
    intro i0 cells hp hc hl k hk
    obtain ⟨i, x⟩ := p
    have hi : i = i0 := by have := hp 0 _ rfl; simpa using this
    subst hi
    obtain ⟨hx1, hx2⟩ := hc _ (List.mem_cons_self ..)
    simp only at hx1 hx2
    have hle : (i + (r.length + 1)) * n = i * n + n + r.length * n := by rw [Nat.add_mul, Nat.add_mul, Nat.one_mul]; omega
    have hfit : i * n + n ≤ cells.length := by simp only [List.length_cons] at hl; rw [hle] at hl; omega
    refine ⟨hx1, hx2, hfit, ih (i + 1) _ (fun k p e => by have := hp (k + 1) p (by simpa using e); omega) (fun p hm => hc p (List.mem_cons_of_mem _ hm)) ?_ ?_⟩
    · rw [splice_length _ _ _ (by omega)]
      simp only [List.length_cons] at hl
      rw [show i + 1 + r.length = i + (r.length + 1) from by omega]; exact hl
    · intro out h1 h2 h3
      have hsp := splice_get cells (i * n) x.cells (by omega)
      refine hk out (by rw [h1, splice_length _ _ _ (by omega)]) (fun q hq => ?_) (fun j p e q hq => ?_)
      · rw [h2 q (by rw [Nat.add_mul]; omega), hsp, if_neg (by omega)]
      · cases j with
        | zero =>
          simp at e; subst e
          rw [Nat.add_zero, h2 _ (by rw [Nat.add_mul, Nat.one_mul]; omega), hsp, if_pos ⟨by omega, by omega⟩, Nat.add_sub_cancel_left]
        | succ j =>
          rw [show i + (j + 1) = i + 1 + j from by omega]
          exact h3 j p (by simpa using e) q hq

theorem buildSlice_ok (hI : Inv Γ G h w) {t : TypeId} {len : Nat} {parts : Array (Nat × Operand)} {a : Act} (ht : TR N G σ a.tmps) {K : AV → AH → Prop} (H : aBuildSlice P t len (evParts Γ σ parts) fun v => K v h) :
    SemOK P Γ G w (Instr.buildSlice t len (parts.map fun (i, x) => (i, a.eval x))) K := by
  have hlen : (evParts Γ σ parts).length = (parts.map fun (i, x) => (i, a.eval x)).toList.length := by simp [evParts]
  have hrel : ∀ (j : Nat) (p : Nat × AV) (q : Nat × Value), (evParts Γ σ parts)[j]? = some p → (parts.map fun (i, x) => (i, a.eval x)).toList[j]? = some q → p.1 = q.1 ∧ VR G p.2 q.2 := fun j p q e1 e2 => by
    simp only [evParts, List.getElem?_map, Option.map_eq_some_iff, Array.toList_map] at e1 e2
    obtain ⟨⟨i, x⟩, h1, rfl⟩ := e1
    obtain ⟨⟨i', x'⟩, h2, rfl⟩ := e2
    rw [h1] at h2; cases h2
    exact ⟨rfl, ev_VR hI ht x⟩
  unfold aBuildSlice at H
  split at H
  · rename_i e hd
    split at H
    · rename_i n z hn hz
      obtain ⟨h0, hzs, hmost, hidx, hcs, hk⟩ := H
      generalize hps : evParts Γ σ parts = ps at hlen hrel hidx hcs hk
      have hpl : ps.length = len := by have := congrArg List.length hidx; simpa using this
      have hp : ∀ k p, ps[k]? = some p → p.1 = 0 + k := fun k p e => by
        have : (ps.map (·.1))[k]? = some p.1 := by rw [List.getElem?_map, e]; rfl
        rw [hidx, List.getElem?_range (by have := (List.getElem?_eq_some_iff.1 e).1; omega)] at this
        cases this; omega
      obtain ⟨out, vals', f1, f2, f3⟩ := fill_ok (G := G) ps (parts.map fun (i, x) => (i, a.eval x)).toList (((Array.range (len * n)).map (z.cells[· % z.cells.size]!)).toList.map fun _ => AV.top)
        ((Array.range (len * n)).map (z.cells[· % z.cells.size]!)) ⟨by simp, fun j c e => by
          simp only [List.getElem?_map, Option.map_eq_some_iff] at e
          obtain ⟨_, _, rfl⟩ := e
          exact .top _⟩ hlen hrel
        (aFill_rows ps 0 _ hp hcs (by simp [hpl]) (k := fun out => out.length = len * n ∧ ∀ j p, ps[j]? = some p → ∀ q, q < n → out[j * n + q]? = p.2.cells[q]?) (fun out h1 _ h3 => ⟨by simpa using h1, fun j p e q hq => by have := h3 j p e q hq; rwa [Nat.zero_add] at this⟩))
      have hle := hI.fixed_le vals'
      have hI' := hI.alloc_fixed vals' e
      refine ⟨.slice (some ⟨w.heap.size, 0, none⟩) len len, w.alloc (.cells vals' e), _, _, h, ?_, hle, hI', ?_, hk⟩
      · have hf1 : Instr.fill (fun i => some (i * n, n)) ((Array.range (len * n)).map (z.cells[· % z.cells.size]!)) (parts.map fun (i, x) => (i, a.eval x)).toList = some vals' := f1
        simp only [Instr.buildSlice, Sem.run_bind, run_underlying hd, Result.andThen_ok, run_sizeOf' hn]
        rw [if_neg (by omega)]
        by_cases hl0 : len * n = 0
        · have hl : len = 0 := by rcases Nat.mul_eq_zero.1 hl0 with h | h <;> omega
          subst hl
          simp only [Nat.zero_mul, if_true, Sem.run_pure, Result.andThen_ok, Sem.run_bind] at hf1 ⊢
          have : ((Array.range 0).map fun x => (#[] : Array Value)[x % (#[] : Array Value).size]!) = ((Array.range 0).map (z.cells[· % z.cells.size]!)) := by simp
          rw [this, hf1]
          simp [newRow]
        · rw [if_neg hl0]
          simp only [Sem.run_bind, Sem.run_pure, run_zero' hz, Result.andThen_ok, hf1]
          simp [newRow]
      · have hmp : (ps.map (·.2)).length = len := by simp [hpl]
        have hvl : vals'.size = len * n := by rw [← f2.1]; exact f3.1
        have key := VR.sl_of_flat (G := G.fixed w.heap.size vals') (rows := ps.map (·.2)) (own := .full) (b := w.heap.size) (o := 0) (cap := len) (n := n) (vals := fun q => vals'.getD q undef)
          (fun r hr => by obtain ⟨p, hpm, rfl⟩ := List.mem_map.1 hr; exact (hcs p hpm).1) (by omega)
          (fun q hq => by
            rw [hmp] at hq
            simp only [Gh.fixed, if_true, Nat.zero_add]
            rw [Array.getElem?_eq_getElem (by omega)]
            simp [Array.getD_eq_getD_getElem?, Array.getElem?_eq_getElem (show q < vals'.size by omega)])
          (fun q c e => by
            have hq := (List.getElem?_eq_some_iff.1 e).1
            have hrl : ∀ r ∈ ps.map (·.2), r.cells.length = n := fun r hr => by obtain ⟨p, hpm, rfl⟩ := List.mem_map.1 hr; exact (hcs p hpm).1
            rw [flat_length hrl, hmp] at hq
            have hk' : q / n < len := Nat.div_lt_of_lt_mul (by rw [Nat.mul_comm]; exact hq)
            have hj : q % n < n := Nat.mod_lt _ (by omega)
            have hqq : q / n * n + q % n = q := by rw [Nat.mul_comm]; exact Nat.div_add_mod q n
            obtain ⟨p, hpk⟩ : ∃ p, ps[q / n]? = some p := ⟨_, List.getElem?_eq_getElem (by omega)⟩
            have hpm : (ps.map (·.2))[q / n]? = some p.2 := by rw [List.getElem?_map, hpk]; rfl
            have h1 := flat_get hrl _ _ _ hpm hj
            rw [hqq, e] at h1
            have h2 := f3.2 _ p hpk _ hj
            rw [hqq, ← h1] at h2
            exact (f2.2 q c h2).mono hle) (by show len = _; omega)
        rw [hmp] at key
        exact key
    · exact H.elim
  · exact H.elim
end
end Go.Abs

/- append, seen abstractly. It says nothing of any program; no conditions. -/
set_option linter.unusedSimpArgs false
set_option linter.unusedVariables false
namespace Go.Abs
open Go Go.RowKit

section
variable {P : Program} {Γ : Nat → Option (List AV)} {G : Gh} {h : AH} {w : World} {N : Nat} {σ : Tm}

/-- The elements of a slice or a string that is appended. -/
def SrcIs (x : AV) (h : AH) (xs : List AV) : Prop :=
  match x with
  | .sl rows _ => xs = rows
  | .ms i off len _ sz => ∃ cs T, h[i]? = some (.row cs T) ∧ sz = 1 ∧ off + len ≤ cs.length ∧ (∀ c ∈ (cs.drop off).take len, c.one = true) ∧ xs = (cs.drop off).take len
  | _ => False

def aAppend (P : Program) (t u : TypeId) (s x : AV) (h : AH) (K : AV → AH → Prop) : Prop :=
  match P.underlying t, P.underlying u with
  | some _, some (.int _) => False
  | some (.slice e), some _ => (match tsz P e, tbytes P e, tzero P e, s with
    | some n, some by_, some z, .sl rows own => n ≠ 0 ∧ z.cells.size = n ∧ ∃ xs, SrcIs x h xs ∧ RowsOK n rows ∧ RowsOK n xs ∧ rows.length + xs.length ≤ 9223372036854775807 ∧ (rows.length + xs.length) * by_ ≤ 140737488355328 ∧
        (match own with
         | .free => xs = [] ∧ K s h
         | .full => K (.sl (rows ++ xs) (.arena h.length)) (h ++ [.arena (rows.length + xs.length)])
         | .arena i => (match h[i]? with
           | some (.arena m) => m = rows.length ∧ K (.sl (rows ++ xs) (.arena i)) (h.set i (.arena (rows.length + xs.length)))
           | _ => False))
    | _, _, _, _ => False)
  | _, _ => False

/-- The ghost with an arena's entry. -/
def Gh.withAr (G : Gh) (i : Nat) (r : Ar) : Gh := { G with ar := fun j => if j = i then some r else G.ar j }
def Gh.fixedTo (G : Gh) (b : Nat) (vals : Array Value) (lim : Nat) : Gh := { G with F := fun c o => if c = b then (if o < lim then vals[o]? else none) else G.F c o }

theorem Inv.withAr_le (hI : Inv Γ G h w) (r : Ar) : G.le (G.withAr h.length r) :=
  ⟨rfl, fun _ _ e => e, fun _ _ _ e => e, fun i r' e => ⟨r', by have := hI.domA i r' e; simp only [Gh.withAr]; rw [if_neg (by omega)]; exact e, Nat.le_refl _, fun _ => rfl⟩, fun _ _ e => e, fun _ e => e, fun b _ e _ => ⟨b, e⟩⟩

/-- A new arena, whose newest version has no room. -/
theorem Inv.newArena (hI : Inv Γ G h w) (n : Nat) : Inv Γ (G.withAr h.length ⟨n, none⟩) (h ++ [.arena n]) w := by
  have hle := hI.withAr_le ⟨n, none⟩
  have har : ∀ i r, (G.withAr h.length ⟨n, none⟩).ar i = some r → (i = h.length ∧ r = ⟨n, none⟩) ∨ (i ≠ h.length ∧ G.ar i = some r) := fun i r e => by
    simp only [Gh.withAr] at e
    split at e
    · rename_i hi; cases e; exact .inl ⟨hi, rfl⟩
    · rename_i hi; exact .inr ⟨hi, e⟩
  exact {
    below := hI.below
    drw := hI.drw
    fix := hI.fix
    obj := fun i ob e => by
      rw [List.getElem?_append] at e
      split at e
      · rename_i hi
        exact (hI.obj i ob e).mono hle (fun _ _ => rfl) (fun r hr => by simp only [Gh.withAr]; rw [if_neg (by omega)]; exact hr) (fun h => ⟨h.1, by simp only [Gh.withAr]; rw [if_neg (by omega)]; exact h.2⟩)
      · rename_i hi
        have : i = h.length := by
          have := (List.getElem?_eq_some_iff.1 e).1
          simp at this; omega
        subst this
        simp at e; subst e; exact ⟨⟨n, none⟩, by simp [Gh.withAr], rfl⟩
    domρ := fun i b e => by have := hI.domρ i b e; simp; omega
    domA := fun i r e => by
      rcases har i r e with ⟨h1, _⟩ | ⟨_, h2⟩
      · simp [h1]
      · have := hI.domA i r h2; simp; omega
    inj := hI.inj
    base := hI.base
    sep := fun i b o v hf e e' => hI.sep i b o v (fun e'' => hf (by rw [List.getElem?_append_left (hI.domρ i b e)]; exact e'')) e e'
    arB := fun i r b c sz T e e' => by
      rcases har i r e with ⟨_, h2⟩ | ⟨_, h2⟩
      · subst h2; cases e'
      · exact (hI.arB i r b c sz T h2 e').mono (G' := G.withAr h.length ⟨n, none⟩) rfl rfl (fun _ _ h => h) (fun _ h => h)
    arI := fun i j r r' b c sz T c' sz' T' e1 e2 e3 e4 => by
      rcases har i r e1 with ⟨_, h2⟩ | ⟨_, h2⟩
      · subst h2; cases e3
      · rcases har j r' e2 with ⟨_, k2⟩ | ⟨_, k2⟩
        · subst k2; cases e4
        · exact hI.arI i j r r' b c sz T c' sz' T' h2 k2 e3 e4
    lp := hI.lp
    lpB := hI.lpB
    dsI := hI.dsI
    glob := fun g cs e => (hI.glob g cs e).mono hle }

/-- An arena moves to a new block. -/
theorem Inv.growArena (hI : Inv Γ G h w) {i : Nat} {r : Ar} (hi : G.ar i = some r) {m c sz : Nat} {T : TypeId} {vals : Array Value} (hm : r.n < m) (hsz : vals.size = c * sz) (hmc : m ≤ c) (hfz : h[i]? ≠ some .frozen) :
    G.le ((G.withAr i ⟨m, some (w.heap.size, c, sz, T)⟩).fixedTo w.heap.size vals (m * sz)) ∧
    Inv Γ ((G.withAr i ⟨m, some (w.heap.size, c, sz, T)⟩).fixedTo w.heap.size vals (m * sz)) (h.set i (.arena m)) (w.alloc (.cells vals T)) := by
  generalize hG' : (G.withAr i ⟨m, some (w.heap.size, c, sz, T)⟩).fixedTo w.heap.size vals (m * sz) = G'
  have hle : G.le G' := by
    subst hG'
    refine ⟨rfl, fun _ _ e => e, fun b o v e => ?_, fun j r' e => ?_, fun _ _ e => e, fun _ e => e, fun b _ e _ => ⟨b, e⟩⟩
    · have := hI.F_lt e; simp only [Gh.fixedTo, Gh.withAr]; rw [if_neg (by omega)]; exact e
    · by_cases hj : j = i
      · subst hj; rw [hi] at e; cases e
        exact ⟨⟨m, some (w.heap.size, c, sz, T)⟩, by simp [Gh.fixedTo, Gh.withAr], by simp only; omega, fun e => by simp only at e; omega⟩
      · exact ⟨r', by simp only [Gh.fixedTo, Gh.withAr]; rw [if_neg hj]; exact e, Nat.le_refl _, fun _ => rfl⟩
  refine ⟨hle, ?_⟩
  have hI' := hI.alloc_any (.cells vals T)
  have hnew : (w.alloc (.cells vals T)).heap[w.heap.size]? = some (.cells vals T (0, 0)) := heap_alloc_new w _
  have hF : ∀ b o v, G'.F b o = some v → (b = w.heap.size ∧ o < m * sz ∧ vals[o]? = some v) ∨ (b ≠ w.heap.size ∧ G.F b o = some v) := fun b o v e => by
    subst hG'
    simp only [Gh.fixedTo, Gh.withAr] at e
    split at e
    · rename_i hb
      split at e
      · rename_i ho; exact .inl ⟨hb, ho, e⟩
      · cases e
    · rename_i hb; exact .inr ⟨hb, e⟩
  have hρ : ∀ j, G'.ρ j = G.ρ j := fun j => by subst hG'; rfl
  have har : ∀ j r', G'.ar j = some r' → (j = i ∧ r' = ⟨m, some (w.heap.size, c, sz, T)⟩) ∨ (j ≠ i ∧ G.ar j = some r') := fun j r' e => by
    subst hG'
    simp only [Gh.fixedTo, Gh.withAr] at e
    split at e
    · rename_i hj; cases e; exact .inl ⟨hj, rfl⟩
    · rename_i hj; exact .inr ⟨hj, e⟩
  exact {
    below := hle.w0 ▸ hI'.below
    drw := hle.w0 ▸ hI'.drw
    fix := fun b o v e => by
      rcases hF b o v e with ⟨hb, _, hv⟩ | ⟨_, hv⟩
      · subst hb; rw [cell_of hnew]; exact hv
      · exact hI'.fix b o v hv
    obj := fun j ob e => by
      rw [List.getElem?_set] at e
      split at e
      · rename_i hij; subst hij
        split at e
        · cases e; subst hG'; exact ⟨⟨m, some (w.heap.size, c, sz, T)⟩, by simp [Gh.fixedTo, Gh.withAr], rfl⟩
        · cases e
      · rename_i hij
        refine (hI'.obj j ob e).mono hle (fun _ _ => rfl) (fun r' hr' => ?_) (fun h => ?_)
        · subst hG'; simp only [Gh.fixedTo, Gh.withAr]; rw [if_neg (fun e => hij e.symm)]; exact hr'
        · subst hG'; exact ⟨h.1, by simp only [Gh.fixedTo, Gh.withAr]; rw [if_neg (fun e => hij e.symm)]; exact h.2⟩
    domρ := fun j b e => by rw [List.length_set]; rw [hρ] at e; exact hI.domρ j b e
    domA := fun j r' e => by
      rw [List.length_set]
      rcases har j r' e with ⟨h1, _⟩ | ⟨_, h2⟩
      · rw [h1]; exact hI.domA i r hi
      · exact hI.domA j r' h2
    inj := fun j k b e e' => by rw [hρ] at e e'; exact hI.inj j k b e e'
    base := fun j b e => by rw [hρ] at e; rw [hle.w0]; exact hI'.base j b e
    sep := fun j b o v hf e e' => by
      rw [hρ] at e
      rcases hF b o v e' with ⟨hb, _, _⟩ | ⟨_, hv⟩
      · have := (hI.base j b e).2; omega
      · refine hI.sep j b o v (fun e'' => ?_) e hv
        by_cases hj : i = j
        · subst hj; exact hfz e''
        · exact hf (by rw [List.getElem?_set_ne hj]; exact e'')
    arB := fun j r' b c' sz' T' e e' => by
      rcases har j r' e with ⟨_, h2⟩ | ⟨_, h2⟩
      · subst h2
        simp only [Option.some.injEq, Prod.mk.injEq] at e'
        obtain ⟨rfl, rfl, rfl, rfl⟩ := e'
        refine ⟨⟨vals, hnew, hsz⟩, hmc, by show 0 < m; omega, by rw [hle.w0]; exact hI.below.size, fun o v e => ?_, fun k ek => ?_⟩
        · rcases hF _ o v e with ⟨_, ho, _⟩ | ⟨hb, _⟩
          · exact ho
          · exact absurd rfl hb
        · rw [hρ] at ek; have := (hI.base k _ ek).2; omega
      · refine (hI'.arB j r' b c' sz' T' h2 e').mono hle.w0 rfl (fun o v hv => ?_) (fun k ek => by rwa [hρ] at ek)
        rcases hF b o v hv with ⟨hb, _, _⟩ | ⟨_, hv⟩
        · have := hI.ar_lt h2 e'; omega
        · exact hv
    arI := fun j k r1 r2 b c1 s1 T1 c2 s2 T2 e1 e2 e3 e4 => by
      rcases har j r1 e1 with ⟨h1, h2⟩ | ⟨h1, h2⟩ <;> rcases har k r2 e2 with ⟨k1, k2⟩ | ⟨k1, k2⟩
      · omega
      · subst h2
        simp only [Option.some.injEq, Prod.mk.injEq] at e3
        have := hI.ar_lt k2 e4; omega
      · subst k2
        simp only [Option.some.injEq, Prod.mk.injEq] at e4
        have := hI.ar_lt h2 e3; omega
      · exact hI.arI j k r1 r2 b c1 s1 T1 c2 s2 T2 h2 k2 e3 e4
    lp := fun b D e => hI'.lp b D (by subst hG'; exact e) |>.imp fun l hl => ⟨hl.1, hl.2.1, by subst hG'; exact hl.2.2⟩
    lpB := fun b D e => by rw [hle.w0]; exact hI.lpB b D (by subst hG'; exact e)
    dsI := fun D e => by rw [hle.w0]; exact hI'.dsI D (by subst hG'; exact e)
    glob := fun g cs e => (hI'.glob g cs e).mono hle }

/-- The ghost with more cells of one block fixed. -/
def Gh.fixMore (G : Gh) (b lo hi : Nat) (vals : Array Value) : Gh := { G with F := fun c o => if c = b ∧ lo ≤ o ∧ o < hi then vals[o]? else G.F c o }

/-- An arena's newest version grows in place. -/
theorem Inv.roomArena (hI : Inv Γ G h w) {i : Nat} {r : Ar} (hi : G.ar i = some r) {b c sz m : Nat} {T : TypeId} (hr : r.blk = some (b, c, sz, T)) {cur vals : Array Value} (hcur : w.heap[b]? = some (.cells cur T (0, 0)))
    (hsz : vals.size = cur.size) (hold : ∀ o, o < r.n * sz → vals[o]? = cur[o]?) (hm : r.n < m) (hmc : m ≤ c) (hfz : h[i]? ≠ some .frozen) :
    G.le ((G.withAr i ⟨m, some (b, c, sz, T)⟩).fixMore b (r.n * sz) (m * sz) vals) ∧
    Inv Γ ((G.withAr i ⟨m, some (b, c, sz, T)⟩).fixMore b (r.n * sz) (m * sz) vals) (h.set i (.arena m)) (w.setRow b vals) := by
  have hAB := hI.arB i r b c sz T hi hr
  generalize hG' : (G.withAr i ⟨m, some (b, c, sz, T)⟩).fixMore b (r.n * sz) (m * sz) vals = G'
  have hle : G.le G' := by
    subst hG'
    refine ⟨rfl, fun _ _ e => e, fun b' o v e => ?_, fun j r' e => ?_, fun _ _ e => e, fun _ e => e, fun b _ e _ => ⟨b, e⟩⟩
    · simp only [Gh.fixMore, Gh.withAr]
      rw [if_neg (fun ⟨e1, e2, _⟩ => by subst e1; have := hAB.above o v e; omega)]; exact e
    · by_cases hj : j = i
      · subst hj; rw [hi] at e; cases e
        exact ⟨⟨m, some (b, c, sz, T)⟩, by simp [Gh.fixMore, Gh.withAr], by simp only; omega, fun e => by simp only at e; omega⟩
      · exact ⟨r', by simp only [Gh.fixMore, Gh.withAr]; rw [if_neg hj]; exact e, Nat.le_refl _, fun _ => rfl⟩
  refine ⟨hle, ?_⟩
  have hnew := setRow_heap w b cur vals T (0, 0) hcur
  have hsame : ∀ k, k ≠ b → (w.setRow b vals).heap[k]? = w.heap[k]? := fun k hk => heap_setRow_ne w b k vals hk
  have hF : ∀ b' o v, G'.F b' o = some v → (b' = b ∧ r.n * sz ≤ o ∧ o < m * sz ∧ vals[o]? = some v) ∨ G.F b' o = some v := fun b' o v e => by
    subst hG'
    simp only [Gh.fixMore, Gh.withAr] at e
    split at e
    · rename_i hb; exact .inl ⟨hb.1, hb.2.1, hb.2.2, e⟩
    · exact .inr e
  have hρ : ∀ j, G'.ρ j = G.ρ j := fun j => by subst hG'; rfl
  have har : ∀ j r', G'.ar j = some r' → (j = i ∧ r' = ⟨m, some (b, c, sz, T)⟩) ∨ (j ≠ i ∧ G.ar j = some r') := fun j r' e => by
    subst hG'
    simp only [Gh.fixMore, Gh.withAr] at e
    split at e
    · rename_i hj; cases e; exact .inl ⟨hj, rfl⟩
    · rename_i hj; exact .inr ⟨hj, e⟩
  have hnl : ∀ x, w.heap[b]? ≠ some (.loop x) := fun x e => by rw [hcur] at e; cases e
  have hnd : ∀ x, w.heap[b]? ≠ some (.deferred x) := fun x e => by rw [hcur] at e; cases e
  exact {
    drw := hle.w0 ▸ hI.drw
    below := hle.w0 ▸ hI.below.trans ⟨rfl, rfl, rfl, by simp [World.setRow], fun k hk => hsame k (fun e => by have := hAB.base; omega)⟩
    fix := fun b' o v e => by
      rcases hF b' o v e with ⟨hb, _, _, hv⟩ | hv
      · subst hb; rw [cell_of hnew]; exact hv
      · by_cases hb : b' = b
        · subst hb
          have h1 := hI.fix _ o v hv
          rw [cell_of hcur] at h1
          rw [cell_of hnew, hold o (hAB.above o v hv)]; exact h1
        · exact (cell_eq (hsame b' hb)).trans (hI.fix b' o v hv)
    obj := fun j ob e => by
      rw [List.getElem?_set] at e
      split at e
      · rename_i hij; subst hij
        split at e
        · cases e; subst hG'; exact ⟨⟨m, some (b, c, sz, T)⟩, by simp [Gh.fixMore, Gh.withAr], rfl⟩
        · cases e
      · rename_i hij
        refine (hI.obj j ob e).mono hle (fun b' e' => hsame b' (fun e'' => hAB.ρ j (e'' ▸ e'))) (fun r' hr' => ?_) (fun h => ?_)
        · subst hG'; simp only [Gh.fixMore, Gh.withAr]; rw [if_neg (fun e => hij e.symm)]; exact hr'
        · subst hG'; exact ⟨h.1, by simp only [Gh.fixMore, Gh.withAr]; rw [if_neg (fun e => hij e.symm)]; exact h.2⟩
    domρ := fun j b' e => by rw [List.length_set]; rw [hρ] at e; exact hI.domρ j b' e
    domA := fun j r' e => by
      rw [List.length_set]
      rcases har j r' e with ⟨h1, _⟩ | ⟨_, h2⟩
      · rw [h1]; exact hI.domA i r hi
      · exact hI.domA j r' h2
    inj := fun j k b' e e' => by rw [hρ] at e e'; exact hI.inj j k b' e e'
    base := fun j b' e => by rw [hρ] at e; rw [hle.w0]; have := hI.base j b' e; exact ⟨this.1, by simp [World.setRow]; exact this.2⟩
    sep := fun j b' o v hf e e' => by
      rw [hρ] at e
      rcases hF b' o v e' with ⟨hb, _, _, _⟩ | hv
      · subst hb; exact hAB.ρ j e
      · refine hI.sep j b' o v (fun e'' => ?_) e hv
        by_cases hj : i = j
        · subst hj; exact hfz e''
        · exact hf (by rw [List.getElem?_set_ne hj]; exact e'')
    arB := fun j r' b' c' sz' T' e e' => by
      rcases har j r' e with ⟨_, h2⟩ | ⟨hne, h2⟩
      · subst h2
        simp only [Option.some.injEq, Prod.mk.injEq] at e'
        obtain ⟨rfl, rfl, rfl, rfl⟩ := e'
        refine ⟨⟨vals, hnew, ?_⟩, hmc, by show 0 < m; omega, by rw [hle.w0]; exact hAB.base, fun o v e => ?_, fun k ek => by rw [hρ] at ek; exact hAB.ρ k ek⟩
        · obtain ⟨cells, k1, k2⟩ := hAB.blk
          rw [hcur] at k1; cases k1
          rw [hsz, k2]
        · rcases hF _ o v e with ⟨_, _, ho, _⟩ | hv
          · exact ho
          · have h1 := hAB.above o v hv
            have h2 : r.n * sz ≤ m * sz := Nat.mul_le_mul_right _ (by omega)
            simp only; omega
      · have hbb : b' ≠ b := fun e'' => by subst e''; exact hne (hI.arI j i r' r _ c' sz' T' c sz T h2 hi e' hr)
        refine (hI.arB j r' b' c' sz' T' h2 e').mono hle.w0 (hsame b' hbb) (fun o v hv => ?_) (fun k ek => by rwa [hρ] at ek)
        rcases hF b' o v hv with ⟨hb, _, _, _⟩ | hv
        · exact absurd hb hbb
        · exact hv
    arI := fun j k r1 r2 b' c1 s1 T1 c2 s2 T2 e1 e2 e3 e4 => by
      rcases har j r1 e1 with ⟨h1, h2⟩ | ⟨h1, h2⟩ <;> rcases har k r2 e2 with ⟨k1, k2⟩ | ⟨k1, k2⟩
      · omega
      · subst h2
        simp only [Option.some.injEq, Prod.mk.injEq] at e3
        obtain ⟨rfl, _, _, _⟩ := e3
        exact absurd (hI.arI k i r2 r _ c2 s2 T2 c sz T k2 hi e4 hr) k1
      · subst k2
        simp only [Option.some.injEq, Prod.mk.injEq] at e4
        obtain ⟨rfl, _, _, _⟩ := e4
        exact absurd (hI.arI j i r1 r _ c1 s1 T1 c sz T h2 hi e3 hr) h1
      · exact hI.arI j k r1 r2 b' c1 s1 T1 c2 s2 T2 h2 k2 e3 e4
    lp := fun b' D e => by
      obtain ⟨l, h1, h2, h3⟩ := hI.lp b' D (by subst hG'; exact e)
      exact ⟨l, (hsame b' (fun e' => hnl l (e' ▸ h1))).trans h1, h2, by subst hG'; exact h3⟩
    lpB := fun b' D e => by rw [hle.w0]; exact hI.lpB b' D (by subst hG'; exact e)
    dsI := fun D e => by
      rw [hle.w0]
      have := hI.dsI D (by subst hG'; exact e)
      exact ⟨(hsame D (fun e' => hnd _ (e' ▸ this.1))).trans this.1, this.2⟩
    glob := fun g cs e => (hI.glob g cs e).mono hle }

/-- The source of an append as cells. -/
theorem src_ok (hI : Inv Γ G h w) {x : AV} {v : Value} (hv : VR G x v) {xs : List AV} (hs : SrcIs x h xs) {n : Nat} (hn : n ≠ 0) (hok : RowsOK n xs) :
    ∃ news : List Value, news.length = xs.length * n ∧ VRs G (flat xs) news.toArray ∧ (∀ w', (Builtin.lenOf v).run P w' = .ok xs.length w') ∧
      ∀ w' : World, w'.heap = w.heap → (Builtin.firstCells n xs.length v).run P w' = .ok news.toArray w' := by
  unfold SrcIs at hs
  split at hs
  · rename_i rows own
    subst hs
    have hv0 := hv
    cases hv with
    | sl vals hcap hnil hsz hF hv hown =>
      obtain ⟨olds, h1, h2, h3⟩ := hv0.flatCells (P := P) hI (fun r hr => (hok r hr).1)
      exact ⟨olds, h1, h2, fun w' => rfl, h3⟩
  · rename_i i off len cap sz
    obtain ⟨cs, T, hrow, rfl, hfit, hone, rfl⟩ := hs
    obtain ⟨b, vals, k1, k2, k3⟩ := hI.row hrow
    cases hv with
    | ms hb =>
      rw [k1] at hb; cases hb
      have hl : ((cs.drop off).take len).length = len := by rw [List.length_take, List.length_drop]; omega
      rw [hl]
      by_cases hlen : len = 0
      · subst hlen
        exact ⟨[], by simp, by simpa [flat] using VRs.nil G, fun w' => rfl, fun w' _ => by simp [Builtin.firstCells, loadCells, loadCellsFrom]⟩
      · obtain ⟨c0, hc0⟩ : ∃ c, ((cs.drop off).take len)[0]? = some c := ⟨_, List.getElem?_eq_getElem (by omega)⟩
        have hcell : ∀ c, c ∈ (cs.drop off).take len → c.cells = [c] := fun c hc => by
          have := hone c hc
          cases c <;> first | rfl | (simp [AV.one] at this)
        have hn1 : n = 1 := by
          have hm := List.mem_of_getElem? hc0
          have := (hok c0 hm).1
          rw [hcell c0 hm] at this; simpa using this.symm
        subst hn1
        have hflat : flat ((cs.drop off).take len) = (cs.drop off).take len := by
          have : ∀ l : List AV, (∀ c ∈ l, c.cells = [c]) → flat l = l := fun l => by
            induction l with
            | nil => intro _; rfl
            | cons c l ih => intro h; rw [flat_cons, h c (by simp), ih (fun x hx => h x (by simp [hx]))]; rfl
          exact this _ hcell
        have hA := (At.of_row k2 k3).drop off
        refine ⟨(List.range len).map fun q => (w.cell? ⟨b, off + q, none⟩).getD undef, by simp, ?_, fun w' => rfl, fun w' hw' => ?_⟩
        · rw [hflat]
          refine VRs.of_get (by simp; omega) fun j c v e e' => ?_
          rw [List.getElem?_take] at e
          split at e
          · rename_i hj
            obtain ⟨u, q1, q2⟩ := hA j c e
            rw [Nat.zero_add] at q1
            simp [hj, q1] at e'
            subst e'; exact q2
          · cases e
        · have hr' := run_loadCells (P := P) w' ⟨b, off, none⟩ len (fun q => (w.cell? ⟨b, off + q, none⟩).getD undef) (fun q hq => by
            obtain ⟨u, q1, q2⟩ := hA q _ (List.getElem?_eq_getElem (show q < (cs.drop off).length by rw [List.length_drop]; omega))
            rw [Nat.zero_add] at q1
            rw [Addr.add_lit, cell_eq (w := w) (by rw [hw']), q1]; rfl)
          simpa [Builtin.firstCells] using hr'
  · exact hs.elim

/-- append that must move. -/
theorem run_append_moves {t u ty e : TypeId} {d : TypeDesc} {n by_ : Nat} {z : Value} (ht : P.underlying t = some (.slice e)) (hu : P.underlying u = some d) (hd : ∀ k, d ≠ .int k)
    (hn : tsz P e = some n) (hb : tbytes P e = some by_) (hz : tzero P e = some z) {base : Option Addr} {sLen sCap m : Nat} {x : Value} {olds news : List Value}
    (hlen : ∀ w', (Builtin.lenOf x).run P w' = .ok m w') (hfo : (Builtin.firstCells n sLen (.slice base sLen sCap)).run P w.drew = .ok olds.toArray w.drew) (hfn : (Builtin.firstCells n m x).run P w.drew = .ok news.toArray w.drew)
    (hg : sCap < sLen + m) (h63 : sLen + m ≤ 9223372036854775807) (hby : (sLen + m) * by_ ≤ 140737488355328) :
    (Builtin.append_ #[t, u] ty #[.slice base sLen sCap, x]).run P w =
      .ok (.slice (some ⟨w.heap.size, 0, none⟩) (sLen + m) (grownCap w (sLen + m) sCap e)) (w.drew.alloc (.cells (olds.toArray ++ news.toArray ++ Builtin.zeroCells z.cells (grownCap w (sLen + m) sCap e - (sLen + m))) e)) := by
  have hn' : ¬ (sLen + m ≤ sCap) := by omega
  have hfit := growslice_fits hg hby
  obtain ⟨i, hi⟩ : ∃ i, P.info? e = some i := by unfold tsz at hn; cases hi : P.info? e with
    | none => simp [hi] at hn
    | some i => exact ⟨i, rfl⟩
  have hisz : i.size = n := by simpa [tsz, hi] using hn
  have hiby : i.bytes = by_ := by simpa [tbytes, hi] using hb
  have hiz : i.zero = some z := by simpa [tzero, hi] using hz
  subst hisz hiby
  have h63' : ¬ (9223372036854775807 < ((sLen : Int) + (m : Int))) := by omega
  have h48' : ¬ (281474976710656 < Builtin.nextslicecap (sLen + m) sCap * i.bytes) := by omega
  simp [Builtin.append_, run_underlying ht, run_underlying hu, sizeOf, typeInfo, zeroValue, hi, hiz, hlen, hn', h63', h48', Question.forced, hfo, hfn, newRow, grownCap]
  congr 2
  apply Array.ext'
  simp

/-- append within the capacity. -/
theorem run_append_fits {t u ty e : TypeId} {d : TypeDesc} {n : Nat} (ht : P.underlying t = some (.slice e)) (hu : P.underlying u = some d) (hd : ∀ k, d ≠ .int k)
    (hn : tsz P e = some n) {base : Option Addr} {sLen sCap m : Nat} {x : Value} {news : List Value}
    (hlen : ∀ w', (Builtin.lenOf x).run P w' = .ok m w') (hfn : (Builtin.firstCells n m x).run P w = .ok news.toArray w) (hg : sLen + m ≤ sCap) {w' : World}
    (hst : ∀ a, base = some a → (storeCells (a.add (sLen * n)) news).run P w = .ok () w') (hnone : base = none → w' = w) :
    (Builtin.append_ #[t, u] ty #[.slice base sLen sCap, x]).run P w = .ok (.slice base (sLen + m) sCap) w' := by
  cases base with
  | none => simp [Builtin.append_, run_underlying ht, run_underlying hu, run_sizeOf' hn, hlen, hg, hfn, hnone rfl]
  | some a => simp [Builtin.append_, run_underlying ht, run_underlying hu, run_sizeOf' hn, hlen, hg, hfn, hst a rfl]

theorem append_ok (hI : Inv Γ G h w) {t u ty : TypeId} {s x : AV} {vs vx : Value} (hs : VR G s vs) (hx : VR G x vx) {K : AV → AH → Prop} (H : aAppend P t u s x h K) :
    SemOK P Γ G w (Builtin.append_ #[t, u] ty #[vs, vx]) K := by
  unfold aAppend at H
  split at H
  · exact H.elim
  · rename_i e d hd ht hu
    split at H
    · rename_i n by_ z rows own hn hb hz
      obtain ⟨h0, hzn, xs, hsrc, hok, hxok, h63, hby, H⟩ := H
      have key : ∀ (G : Gh) (h : AH) (i : Nat) (vs vx : Value), Inv Γ G h w → VR G (.sl rows (.arena i)) vs → VR G x vx → SrcIs x h xs → h[i]? = some (.arena rows.length) →
          K (.sl (rows ++ xs) (.arena i)) (h.set i (.arena (rows.length + xs.length))) → SemOK P Γ G w (Builtin.append_ #[t, u] ty #[vs, vx]) K := by
        intro G h i vs vx hI hs hx hsrc hhi hk
        obtain ⟨news, q1, q2, q3, q4⟩ := src_ok (P := P) hI hx hsrc h0 hxok
        have hs0 := hs
        have hallc : ∀ r ∈ rows, r.cells.length = n := fun r hr => (hok r hr).1
        have hall : ∀ r ∈ rows ++ xs, r.cells.length = n := fun r hr => (hok.append hxok r hr).1
        obtain ⟨r, har, hrn⟩ : ObjR G w i (.arena rows.length) := hI.obj i _ hhi
        cases hs with
        | sl vals hcap hnil hsz hF hv hown =>
          rename_i base cap sz
          obtain ⟨olds, p1, p2, p3⟩ := hs0.flatCells (P := P) hI hallc
          obtain ⟨r', har', _, hblk⟩ := hown
          rw [har] at har'; cases har'
          have hblk := hblk hrn.symm
          by_cases hm : xs.length = 0
          · have hx0 : xs = [] := List.eq_nil_of_length_eq_zero hm
            subst hx0
            have hnews : news = [] := List.eq_nil_of_length_eq_zero (by simpa using q1)
            subst hnews
            have hr := run_append_fits (P := P) (w := w) (ty := ty) ht hu (fun k e => hd k e) hn (base := base) (sLen := rows.length) (sCap := cap) (m := 0) (x := vx) (news := []) q3 (q4 w rfl) (by omega) (w' := w) (fun a _ => by simp [storeCells]) (fun _ => rfl)
            have hset : h.set i (.arena (rows.length + 0)) = h := by
              apply List.ext_getElem?
              intro j
              rw [List.getElem?_set]
              split
              · rename_i hij; subst hij
                rw [if_pos (List.getElem?_eq_some_iff.1 hhi).1, hhi]; rfl
              · rfl
            simp only [List.length_nil, hset, List.append_nil] at hk
            exact ⟨_, w, G, _, h, hr, Gh.le.refl G, hI, hs0, hk⟩
          · have hlen : (rows ++ xs).length = rows.length + xs.length := by simp
            have hflat : flat (rows ++ xs) = flat rows ++ flat xs := flat_append _ _
            by_cases hg : cap < rows.length + xs.length
            · have hr := run_append_moves (P := P) (w := w) (ty := ty) ht hu (fun k e => hd k e) hn hb hz (base := base) (sLen := rows.length) (sCap := cap) (m := xs.length) (x := vx) q3 (p3 w.drew rfl) (q4 w.drew rfl) hg h63 hby
              have hge := grownCap_ge w (rows.length + xs.length) cap e
              generalize grownCap w (rows.length + xs.length) cap e = nc at hr hge
              generalize hA : olds.toArray ++ news.toArray ++ Builtin.zeroCells z.cells (nc - (rows.length + xs.length)) = A at hr
              have hpre : olds.length + news.length = (rows.length + xs.length) * n := by rw [p1, q1, Nat.add_mul]
              have hAs : A.size = nc * n := by
                rw [← hA]
                simp only [Array.size_append, List.size_toArray, size_zeroCells, hzn]
                rw [hpre, ← Nat.add_mul]; congr 1; omega
              have hAg : ∀ q, q < (rows.length + xs.length) * n → A[q]? = (olds.toArray ++ news.toArray)[q]? := fun q hq => by
                rw [← hA, Array.getElem?_append_left (by simp only [Array.size_append, List.size_toArray]; omega)]
              obtain ⟨hle, hI'⟩ := hI.drew.growArena har (m := rows.length + xs.length) (c := nc) (sz := n) (T := e) (vals := A) (by omega) hAs hge (by rw [hhi]; simp)
              rw [World.size_drew] at hle hI'
              refine ⟨_, _, _, _, _, hr, hle, hI', ?_, hk⟩
              rw [← hlen]
              refine VR.sl_of_flat (n := n) (vals := fun q => A.getD q undef) hall (by omega) (fun q hq => ?_) (fun q c ec => ?_) ?_
              · rw [hlen] at hq
                have hqA : q < A.size := by rw [hAs]; exact Nat.lt_of_lt_of_le hq (Nat.mul_le_mul_right _ hge)
                simp only [Gh.fixedTo, Nat.zero_add, hlen, if_true]
                rw [if_pos hq, Array.getElem?_eq_getElem hqA]
                simp [Array.getD_eq_getD_getElem?, Array.getElem?_eq_getElem hqA]
              · rw [hflat] at ec
                obtain ⟨v, k1, k2⟩ := (p2.append q2).get ec
                have hq : q < (rows.length + xs.length) * n := by
                  have := (Array.getElem?_eq_some_iff.1 k1).1
                  simp only [Array.size_append, List.size_toArray] at this; omega
                simp only [Array.getD_eq_getD_getElem?, hAg q hq, k1, Option.getD_some]
                exact k2.mono (by rw [hlen]; exact hle)
              · refine ⟨⟨rows.length + xs.length, some (w.heap.size, nc, n, e)⟩, by simp [Gh.fixedTo, Gh.withAr], by simp, fun _ => ⟨rfl, rfl, fun _ => rfl⟩⟩
            · cases hbk : r.blk with
              | none => rw [hbk] at hblk; simp only at hblk; omega
              | some bb =>
                obtain ⟨b, c, s, T⟩ := bb
                rw [hbk] at hblk
                simp only at hblk
                obtain ⟨rfl, rfl, hss⟩ := hblk
                have hAB := hI.arB i r b _ s T har hbk
                have hpos : rows ≠ [] := fun e => by have := hAB.pos; rw [hrn, e] at this; simp at this
                obtain ⟨r0, hr0⟩ : ∃ r0, rows[0]? = some r0 := ⟨_, List.getElem?_eq_getElem (List.length_pos_iff.2 hpos)⟩
                have hsn : s = n := by rw [← hss hpos, ← hsz 0 r0 hr0]; exact hallc r0 (List.mem_of_getElem? hr0)
                subst hsn
                obtain ⟨cur, hcur, hcs⟩ := hAB.blk
                have hnone : ∀ v ∈ news, v.oneCell' = true := by
                  have := q2.oneCells (fun c hc => by
                    simp only [flat, List.mem_flatMap] at hc
                    obtain ⟨r, hr, hc⟩ := hc
                    exact (hxok r hr).2 c hc)
                  simpa using this
                have hfit : rows.length * s + news.length ≤ cur.size := by rw [q1, hcs, ← Nat.add_mul]; exact Nat.mul_le_mul_right _ (by omega)
                have hst := run_storeCells_at P b (rows.length * s) T news 0 cur w hcur (by simpa using hfit) hnone
                simp only [Nat.add_zero] at hst
                generalize hV : (cur.toList.take (rows.length * s) ++ news ++ cur.toList.drop (rows.length * s + news.length)).toArray = V at hst
                have hr := run_append_fits (P := P) (w := w) (ty := ty) ht hu (fun k e => hd k e) hn (base := some ⟨b, 0, none⟩) (sLen := rows.length) (sCap := cap) (m := xs.length) (x := vx) q3 (q4 w rfl) (by omega) (w' := w.setRow b V)
                  (fun a ea => by cases ea; rw [Addr.add_lit, Nat.zero_add]; exact hst) (fun e => by cases e)
                have htl : (cur.toList.take (rows.length * s)).length = rows.length * s := by have : cur.toList.length = cur.size := Array.length_toList; rw [List.length_take]; omega
                have hVs : V.size = cur.size := by rw [← hV]; simp only [List.size_toArray, List.length_append, htl, List.length_drop, Array.length_toList]; omega
                have hVlo : ∀ o, o < rows.length * s → V[o]? = cur[o]? := fun o ho => by
                  rw [← hV, List.getElem?_toArray, List.append_assoc, List.getElem?_append_left (by rw [htl]; exact ho), List.getElem?_take, if_pos ho, Array.getElem?_toList]
                have hVhi : ∀ o, rows.length * s ≤ o → o < (rows.length + xs.length) * s → V[o]? = news[o - rows.length * s]? := fun o ho ho' => by
                  rw [Nat.add_mul, ← q1] at ho'
                  rw [← hV, List.getElem?_toArray, List.getElem?_append_left (by simp only [List.length_append, htl]; omega), List.getElem?_append_right (by omega), htl]
                obtain ⟨hle, hI'⟩ := hI.roomArena har hbk (m := rows.length + xs.length) hcur hVs (fun o ho => hVlo o (by rwa [hrn] at ho)) (by omega) (by omega) (by rw [hhi]; simp)
                refine ⟨_, _, _, _, _, hr, hle, hI', ?_, hk⟩
                rw [← hlen]
                refine VR.sl_of_flat (n := s) (vals := fun q => V.getD q undef) hall (by omega) (fun q hq => ?_) (fun q c ec => ?_) ?_
                · rw [hlen] at hq
                  have hqV : q < V.size := by rw [hVs, hcs]; exact Nat.lt_of_lt_of_le hq (Nat.mul_le_mul_right _ (by omega))
                  have hVq : V[q]? = some (V.getD q undef) := by simp [Array.getD_eq_getD_getElem?, Array.getElem?_eq_getElem hqV]
                  simp only [Gh.fixMore, Nat.zero_add, hlen]
                  by_cases hlo : q < rows.length * s
                  · rw [if_neg (by rw [hrn]; omega)]
                    obtain ⟨c, v, _, k2, _⟩ := hs0.slF hallc hlo
                    rw [Nat.zero_add] at k2
                    have k3 := hI.fix _ _ _ k2
                    rw [cell_of hcur, ← hVlo q hlo, hVq] at k3
                    show G.F b q = _
                    rw [k2, k3]
                  · rw [if_pos (by refine ⟨?_, ?_, ?_⟩ <;> first | trivial | (rw [hrn]; omega) | exact hq)]; exact hVq
                · rw [hflat] at ec
                  have hql := (List.getElem?_eq_some_iff.1 ec).1
                  rw [List.length_append, flat_length hallc, flat_length (fun r hr => (hxok r hr).1), ← Nat.add_mul] at hql
                  have hqV : q < V.size := by rw [hVs, hcs]; exact Nat.lt_of_lt_of_le hql (Nat.mul_le_mul_right _ (by omega))
                  have hVq : V[q]? = some (V.getD q undef) := by simp [Array.getD_eq_getD_getElem?, Array.getElem?_eq_getElem hqV]
                  refine VR.mono (by rw [hlen]; exact hle) ?_
                  by_cases hlo : q < rows.length * s
                  · obtain ⟨c', v, k1, k2, k4⟩ := hs0.slF hallc hlo
                    rw [Nat.zero_add] at k2
                    have k3 := hI.fix _ _ _ k2
                    rw [cell_of hcur, ← hVlo q hlo, hVq] at k3
                    rw [List.getElem?_append_left (by rw [flat_length hallc]; exact hlo), k1] at ec
                    cases ec; cases k3; exact k4
                  · rw [List.getElem?_append_right (by rw [flat_length hallc]; omega), flat_length hallc] at ec
                    obtain ⟨v, k1, k2⟩ := q2.get ec
                    rw [List.getElem?_toArray, ← hVhi q (by omega) hql, hVq] at k1
                    cases k1; exact k2
                · exact ⟨⟨rows.length + xs.length, some (b, cap, s, T)⟩, by simp [Gh.fixMore, Gh.withAr], by simp, fun _ => by simp⟩
      cases own with
      | free =>
        obtain ⟨rfl, hk⟩ := H
        obtain ⟨news, q1, q2, q3, q4⟩ := src_ok (P := P) hI hx hsrc h0 hxok
        have hnews : news = [] := List.eq_nil_of_length_eq_zero (by simpa using q1)
        subst hnews
        have hs0 := hs
        cases hs with
        | sl vals hcap hnil hsz hF hv hown =>
          rename_i base cap sz
          have hr := run_append_fits (P := P) (w := w) (ty := ty) ht hu (fun k e => hd k e) hn (base := base) (sLen := rows.length) (sCap := cap) (m := 0) (x := vx) (news := []) q3 (q4 w rfl) (by omega) (w' := w) (fun a _ => by simp [storeCells]) (fun _ => rfl)
          exact ⟨_, w, G, _, h, hr, Gh.le.refl G, hI, hs0, hk⟩
      | full =>
        have hle := hI.withAr_le ⟨rows.length, none⟩
        have hI' := hI.newArena rows.length
        have hs' : VR (G.withAr h.length ⟨rows.length, none⟩) (.sl rows (.arena h.length)) vs := by
          cases hs with
          | sl vals hcap hnil hsz hF hv hown =>
            refine .sl vals hcap hnil hsz (fun k r j c e e' => ?_) (fun k r j c e e' => (hv k r j c e e').mono hle) ⟨⟨rows.length, none⟩, by simp [Gh.withAr], Nat.le_refl _, fun _ => hown⟩
            obtain ⟨b, o, e1, e2⟩ := hF k r j c e e'
            exact ⟨b, o, e1, e2⟩
        have hsrc' : SrcIs x (h ++ [.arena rows.length]) xs := by
          unfold SrcIs at hsrc ⊢
          split at hsrc
          · exact hsrc
          · obtain ⟨cs, T, k1, k2⟩ := hsrc
            exact ⟨cs, T, by rw [List.getElem?_append_left (List.getElem?_eq_some_iff.1 k1).1]; exact k1, k2⟩
          · exact hsrc.elim
        have hset : (h ++ [AObj.arena rows.length]).set h.length (.arena (rows.length + xs.length)) = h ++ [.arena (rows.length + xs.length)] := by
          rw [List.set_append_right _ _ (Nat.le_refl _)]; simp
        obtain ⟨u', w', G', av, h', a1, a2, a3, a4, a5⟩ := key _ _ h.length vs vx hI' hs' (hx.mono hle) hsrc' (by simp) (by rw [hset]; exact H)
        exact ⟨u', w', G', av, h', a1, hle.trans a2, a3, a4, a5⟩
      | arena i =>
        simp only at H
        split at H
        · rename_i m hhi
          obtain ⟨rfl, hk⟩ := H
          exact key G h i vs vx hI hs hx hsrc hhi hk
        · exact H.elim
    · exact H.elim
  · exact H.elim
end
end Go.Abs
