/- The abstract heap, what it says of a real world, and the steps that keep it true: new blocks, writes to own blocks, draws. It says nothing of any program; no conditions. -/
import Derived.Test.YtopiamdfnaejeaaAbsA
set_option linter.unusedSimpArgs false
set_option linter.unusedVariables false
namespace Go.Abs
open Go Go.RowKit

/-- Temporaries that are known. -/
abbrev Tm := List (Nat × AV)

def lk : Tm → Nat → AV
  | [], _ => .top
  | (j, v) :: r, i => if i = j then v else lk r i

/-- What a loop over a function was begun with. -/
structure LI where
  N : Nat
  σ : Tm
  params : Array Tmp
  assign : Code
  body : Code

/-- Own objects. -/
inductive AObj where
  | row (cells : List AV) (T : TypeId)
  | map (ents : List (Nat × AV × AV)) (clk : Nat)
  | iter (m : Option Nat) (clk : Nat) (seen : List Nat)
  | siter (s : ByteArray) (pos : Nat)
  | arena (n : Nat)
  | loop (st : LoopState) (pend : Option Code) (li : LI)
  | dead
  | hole
  | frozen

abbrev AH := List AObj

/-- The temporaries of a frame. -/
def TR (N : Nat) (G : Gh) (σ : Tm) (tmps : Array Value) : Prop := tmps.size = N ∧ ∀ i, VR G (lk σ i) (tmps.getD i undef)

/-- What an own object is in the world. -/
def ObjR (G : Gh) (w : World) (i : Nat) : AObj → Prop
  | .row cs T => ∃ b vals, G.ρ i = some b ∧ w.heap[b]? = some (.cells vals T (0, 0)) ∧ VRs G cs vals
  | .map ents clk => ∃ (b : Nat) (es : Array MapEntry), G.ρ i = some b ∧ w.heap[b]? = some (.map es clk) ∧ ents.length = es.size ∧
      ∀ (j : Nat) (e : Nat × AV × AV) (x : MapEntry), ents[j]? = some e → es[j]? = some x → x.born = e.1 ∧ VR G e.2.1 x.key ∧ VR G e.2.2 x.val
  | .iter m clk seen => ∃ b mb, G.ρ i = some b ∧ w.heap[b]? = some (.mapIter mb clk seen.toArray clk) ∧ (match m with
      | none => mb = none
      | some j => ∃ c, mb = some c ∧ G.ρ j = some c)
  | .siter s pos => ∃ b, G.ρ i = some b ∧ w.heap[b]? = some (.stringIter s pos)
  | .arena n => ∃ r, G.ar i = some r ∧ r.n = n
  | .loop st pend li => ∃ b l, G.ρ i = some b ∧ w.heap[b]? = some (.loop l) ∧ l.state = st ∧ l.pending = pend ∧ l.params = li.params ∧ l.assign = li.assign ∧ l.body = li.body ∧
      TR li.N G li.σ l.tmps ∧ G.lpD b = some l.defers
  | .dead => True
  | .hole => G.ρ i = none ∧ G.ar i = none
  | .frozen => True

/-- An arena's block. -/
structure ArB (G : Gh) (w : World) (r : Ar) (b c sz : Nat) (T : TypeId) : Prop where
  blk : ∃ cells, w.heap[b]? = some (.cells cells T (0, 0)) ∧ cells.size = c * sz
  fit : r.n ≤ c
  pos : 0 < r.n
  base : G.w0.heap.size ≤ b
  above : ∀ o v, G.F b o = some v → o < r.n * sz
  ρ : ∀ j, G.ρ j ≠ some b

/-- The abstract heap is what the world holds. -/
structure Inv (Γ : Nat → Option (List AV)) (G : Gh) (h : AH) (w : World) : Prop where
  below : Below G.w0.heap.size G.w0 w
  fix : ∀ b o v, G.F b o = some v → w.cell? ⟨b, o, none⟩ = some v
  obj : ∀ i ob, h[i]? = some ob → ObjR G w i ob
  domρ : ∀ i b, G.ρ i = some b → i < h.length
  domA : ∀ i r, G.ar i = some r → i < h.length
  inj : ∀ i j b, G.ρ i = some b → G.ρ j = some b → i = j
  base : ∀ i b, G.ρ i = some b → G.w0.heap.size ≤ b ∧ b < w.heap.size
  sep : ∀ i b o v, h[i]? ≠ some .frozen → G.ρ i = some b → G.F b o = some v → False
  arB : ∀ i r b c sz T, G.ar i = some r → r.blk = some (b, c, sz, T) → ArB G w r b c sz T
  arI : ∀ i j r r' b c sz T c' sz' T', G.ar i = some r → G.ar j = some r' → r.blk = some (b, c, sz, T) → r'.blk = some (b, c', sz', T') → i = j
  lp : ∀ b D, G.lpD b = some D → ∃ l, w.heap[b]? = some (.loop l) ∧ l.defers = D ∧ G.ds D
  lpB : ∀ b D, G.lpD b = some D → G.w0.heap.size ≤ b
  dsI : ∀ D, G.ds D → w.heap[D]? = some (.deferred (some [])) ∧ G.w0.heap.size ≤ D
  glob : ∀ g cs, Γ g = some cs → VR G (.eptr cs) (.pointer (some ⟨g, 0, none⟩))

theorem TR.mono {N : Nat} {G G' : Gh} (hg : G.le G') {σ : Tm} {t : Array Value} (h : TR N G σ t) : TR N G' σ t := ⟨h.1, fun i => (h.2 i).mono hg⟩

/-- An object seen in a later world, where its own block is as it was. -/
theorem ObjR.mono {G G' : Gh} (hg : G.le G') {w w' : World} {i : Nat} {ob : AObj} (h : ObjR G w i ob) (hb : ∀ b, G.ρ i = some b → w'.heap[b]? = w.heap[b]?)
    (ha : ∀ r, G.ar i = some r → G'.ar i = some r) (hn : G.ρ i = none ∧ G.ar i = none → G'.ρ i = none ∧ G'.ar i = none) : ObjR G' w' i ob := by
  cases ob with
  | row cs T => obtain ⟨b, v, h1, h2, h3⟩ := h; exact ⟨b, v, hg.ρ _ _ h1, (hb b h1).trans h2, h3.mono hg⟩
  | map ents clk => obtain ⟨b, es, h1, h2, h3, h4⟩ := h; exact ⟨b, es, hg.ρ _ _ h1, (hb b h1).trans h2, h3, fun j e x he hx => ⟨(h4 j e x he hx).1, ((h4 j e x he hx).2.1).mono hg, ((h4 j e x he hx).2.2).mono hg⟩⟩
  | iter m clk seen =>
    obtain ⟨b, mb, h1, h2, h3⟩ := h
    refine ⟨b, mb, hg.ρ _ _ h1, (hb b h1).trans h2, ?_⟩
    cases m with
    | none => exact h3
    | some j => obtain ⟨c, e, k⟩ := h3; exact ⟨c, e, hg.ρ _ _ k⟩
  | siter s pos => obtain ⟨b, h1, h2⟩ := h; exact ⟨b, hg.ρ _ _ h1, (hb b h1).trans h2⟩
  | arena n => obtain ⟨r, h1, h2⟩ := h; exact ⟨r, ha r h1, h2⟩
  | loop st pend li =>
    obtain ⟨b, l, h1, h2, h3, h4, h5, h6, h7, h8, h9⟩ := h
    exact ⟨b, l, hg.ρ _ _ h1, (hb b h1).trans h2, h3, h4, h5, h6, h7, h8.mono hg, hg.lpD _ _ h9⟩
  | dead => trivial
  | hole => exact hn h
  | frozen => trivial

theorem ArB.mono {G G' : Gh} {w w' : World} {r : Ar} {b c sz : Nat} {T : TypeId} (h : ArB G w r b c sz T) (hw0 : G'.w0 = G.w0) (hb : w'.heap[b]? = w.heap[b]?)
    (hF : ∀ o v, G'.F b o = some v → G.F b o = some v) (hρ : ∀ j, G'.ρ j = some b → G.ρ j = some b) : ArB G' w' r b c sz T :=
  ⟨by rw [hb]; exact h.blk, h.fit, h.pos, by rw [hw0]; exact h.base, fun o v e => h.above o v (hF o v e), fun j e => h.ρ j (hρ j e)⟩

theorem lt_of_heap {w : World} {b : Nat} {o : Obj} (h : w.heap[b]? = some o) : b < w.heap.size := (Array.getElem?_eq_some_iff.1 h).1
theorem lt_of_cell {w : World} {b o : Nat} {v : Value} (h : w.cell? ⟨b, o, none⟩ = some v) : b < w.heap.size := World.block_lt_of_cell? w ⟨b, o, none⟩ h
theorem cell_eq {w w' : World} {b o : Nat} (h : w'.heap[b]? = w.heap[b]?) : w'.cell? ⟨b, o, none⟩ = w.cell? ⟨b, o, none⟩ := by simp [World.cell?, h]
theorem cell_of {w : World} {b o : Nat} {vals : Array Value} {T : TypeId} {fr : Nat × Nat} (h : w.heap[b]? = some (.cells vals T fr)) : w.cell? ⟨b, o, none⟩ = vals[o]? := by simp [World.cell?, h]

section
variable {Γ : Nat → Option (List AV)} {G : Gh} {h : AH} {w : World}

/-- What every block that the abstract heap speaks of has in common: it lies in the heap. -/
theorem Inv.F_lt (hI : Inv Γ G h w) {b o : Nat} {v : Value} (e : G.F b o = some v) : b < w.heap.size := lt_of_cell (hI.fix b o v e)
theorem Inv.ar_lt (hI : Inv Γ G h w) {i : Nat} {r : Ar} {b c sz : Nat} {T : TypeId} (e : G.ar i = some r) (e' : r.blk = some (b, c, sz, T)) : b < w.heap.size := by
  obtain ⟨cells, hb, _⟩ := (hI.arB i r b c sz T e e').blk
  exact lt_of_heap hb
theorem Inv.row (hI : Inv Γ G h w) {i : Nat} {cs : List AV} {T : TypeId} (e : h[i]? = some (.row cs T)) : ∃ b vals, G.ρ i = some b ∧ w.heap[b]? = some (.cells vals T (0, 0)) ∧ VRs G cs vals := hI.obj i _ e

/-- **A world in which all that was there is as it was** (new blocks, draws): nothing turns. -/
theorem Inv.later (hI : Inv Γ G h w) {w' : World} (hs : w.heap.size ≤ w'.heap.size) (ho : w'.os = w.os) (ht : w'.tape = w.tape) (hp : w'.output = w.output)
    (hb : ∀ k, k < w.heap.size → w'.heap[k]? = w.heap[k]?) : Inv Γ G h w' where
  below := hI.below.trans ⟨ho, ht, hp, hs, fun k hk => hb k (Nat.lt_of_lt_of_le hk hI.below.size)⟩
  fix := fun b o v e => (cell_eq (hb b (hI.F_lt e))).trans (hI.fix b o v e)
  obj := fun i ob e => (hI.obj i ob e).mono (Gh.le.refl G) (fun b e' => hb b (hI.base i b e').2) (fun _ h => h) (fun h => h)
  domρ := hI.domρ
  domA := hI.domA
  inj := hI.inj
  base := fun i b e => ⟨(hI.base i b e).1, Nat.lt_of_lt_of_le (hI.base i b e).2 hs⟩
  sep := hI.sep
  arB := fun i r b c sz T e e' => (hI.arB i r b c sz T e e').mono rfl (hb b (hI.ar_lt e e')) (fun _ _ h => h) (fun _ h => h)
  arI := hI.arI
  lp := fun b D e => by obtain ⟨l, h1, h2⟩ := hI.lp b D e; exact ⟨l, (hb b (lt_of_heap h1)).trans h1, h2⟩
  lpB := hI.lpB
  dsI := fun D e => ⟨(hb D (lt_of_heap (hI.dsI D e).1)).trans (hI.dsI D e).1, (hI.dsI D e).2⟩
  glob := hI.glob

theorem Inv.alloc_any (hI : Inv Γ G h w) (o : Obj) : Inv Γ G h (w.alloc o) :=
  hI.later (by simp) rfl rfl rfl (fun k hk => Below.heap_alloc w o k hk)
theorem Inv.drew (hI : Inv Γ G h w) : Inv Γ G h w.drew := hI.later (Nat.le_refl _) rfl rfl rfl (fun _ _ => rfl)

/-- The ghost with one object more. -/
def Gh.add (G : Gh) (i b : Nat) : Gh := { G with ρ := fun j => if j = i then some b else G.ρ j }
theorem Inv.add_le (hI : Inv Γ G h w) (b : Nat) : G.le (G.add h.length b) :=
  ⟨rfl, fun i c e => by have := hI.domρ i c e; simp only [Gh.add]; rw [if_neg (by omega)]; exact e, fun _ _ _ e => e, fun _ r e => ⟨r, e, Nat.le_refl _, fun _ => rfl⟩, fun _ _ e => e, fun _ e => e, fun b _ e _ => ⟨b, e⟩⟩
theorem Gh.add_same (G : Gh) (i b : Nat) : (G.add i b).ρ i = some b := by simp [Gh.add]

/-- **A new own object.** -/
theorem Inv.alloc (hI : Inv Γ G h w) (o : Obj) (ob : AObj) (hob : ObjR (G.add h.length w.heap.size) (w.alloc o) h.length ob) :
    Inv Γ (G.add h.length w.heap.size) (h ++ [ob]) (w.alloc o) := by
  have hle := hI.add_le w.heap.size
  have hI' := hI.alloc_any o
  have hρ : ∀ i b, (G.add h.length w.heap.size).ρ i = some b → (i = h.length ∧ b = w.heap.size) ∨ (i ≠ h.length ∧ G.ρ i = some b) := fun i b e => by
    simp only [Gh.add] at e
    split at e
    · rename_i hi; cases e; exact .inl ⟨hi, rfl⟩
    · rename_i hi; exact .inr ⟨hi, e⟩
  exact {
    below := hI'.below
    fix := hI'.fix
    obj := fun i ob' e => by
      rw [List.getElem?_append] at e
      split at e
      · rename_i hi
        exact (hI'.obj i ob' e).mono hle (fun _ _ => rfl) (fun _ h => h) (fun h => ⟨by simp only [Gh.add]; rw [if_neg (by omega)]; exact h.1, h.2⟩)
      · rename_i hi
        have : i = h.length := by
          have := (List.getElem?_eq_some_iff.1 e).1
          simp at this; omega
        subst this
        simp at e; subst e; exact hob
    domρ := fun i b e => by
      rcases hρ i b e with ⟨h1, _⟩ | ⟨_, h2⟩
      · simp [h1]
      · have := hI.domρ i b h2; simp; omega
    domA := fun i r e => by have := hI.domA i r e; simp; omega
    inj := fun i j b e e' => by
      rcases hρ i b e with ⟨h1, h2⟩ | ⟨h1, h2⟩ <;> rcases hρ j b e' with ⟨k1, k2⟩ | ⟨k1, k2⟩
      · omega
      · have := (hI.base j b k2).2; omega
      · have := (hI.base i b h2).2; omega
      · exact hI.inj i j b h2 k2
    base := fun i b e => by
      rcases hρ i b e with ⟨h1, h2⟩ | ⟨h1, h2⟩
      · subst h2; exact ⟨hI.below.size, by simp⟩
      · have := hI.base i b h2; exact ⟨this.1, by simp; omega⟩
    sep := fun i b o v hf e e' => by
      rcases hρ i b e with ⟨h1, h2⟩ | ⟨h1, h2⟩
      · have := hI.F_lt (show G.F b o = some v from e'); omega
      · exact hI.sep i b o v (fun e'' => hf (by rw [List.getElem?_append_left (hI.domρ i b h2)]; exact e'')) h2 e'
    arB := fun i r b c sz T e e' => (hI'.arB i r b c sz T e e').mono (G' := G.add h.length w.heap.size) rfl rfl (fun _ _ h => h) (fun j ej => by
      rcases hρ j b ej with ⟨_, h2⟩ | ⟨_, h2⟩
      · have := hI.ar_lt (show G.ar i = some r from e) e'; omega
      · exact h2)
    arI := hI'.arI
    lp := hI'.lp
    lpB := hI'.lpB
    dsI := hI'.dsI
    glob := fun g cs e => (hI'.glob g cs e).mono hle }

/-- The ghost that fixes a new block's cells for good. -/
def Gh.fixed (G : Gh) (b : Nat) (vals : Array Value) : Gh := { G with F := fun c o => if c = b then vals[o]? else G.F c o }
theorem Inv.fixed_le (hI : Inv Γ G h w) (vals : Array Value) : G.le (G.fixed w.heap.size vals) :=
  ⟨rfl, fun _ _ e => e, fun b o v e => by have := hI.F_lt e; simp only [Gh.fixed]; rw [if_neg (by omega)]; exact e, fun _ r e => ⟨r, e, Nat.le_refl _, fun _ => rfl⟩, fun _ _ e => e, fun _ e => e, fun b _ e _ => ⟨b, e⟩⟩

/-- **A new block whose cells nobody will write.** -/
theorem Inv.alloc_fixed (hI : Inv Γ G h w) (vals : Array Value) (T : TypeId) : Inv Γ (G.fixed w.heap.size vals) h (w.alloc (.cells vals T)) := by
  have hle := hI.fixed_le vals
  have hI' := hI.alloc_any (.cells vals T)
  have hnew : (w.alloc (.cells vals T)).heap[w.heap.size]? = some (.cells vals T (0, 0)) := heap_alloc_new w _
  exact {
    below := hI'.below
    fix := fun b o v e => by
      simp only [Gh.fixed] at e
      split at e
      · rename_i hb; subst hb; rw [cell_of hnew]; exact e
      · exact hI'.fix b o v e
    obj := fun i ob e => (hI'.obj i ob e).mono hle (fun _ _ => rfl) (fun _ h => h) (fun h => h)
    domρ := hI.domρ
    domA := hI.domA
    inj := hI.inj
    base := hI'.base
    sep := fun i b o v hf e e' => by
      simp only [Gh.fixed] at e'
      split at e'
      · rename_i hb; have := (hI.base i b e).2; omega
      · exact hI.sep i b o v hf e e'
    arB := fun i r b c sz T e e' => (hI'.arB i r b c sz T e e').mono (G' := G.fixed w.heap.size vals) rfl rfl (fun o v hF => by
      have := hI.ar_lt e e'
      simp only [Gh.fixed] at hF
      rw [if_neg (by omega)] at hF; exact hF) (fun _ h => h)
    arI := hI.arI
    lp := hI'.lp
    lpB := hI'.lpB
    dsI := hI'.dsI
    glob := fun g cs e => (hI'.glob g cs e).mono hle }

/-- **A write to an own object's block.** -/
theorem Inv.write (hI : Inv Γ G h w) {w' : World} {i B : Nat} (hi : G.ρ i = some B) (hs : w'.heap.size = w.heap.size) (ho : w'.os = w.os) (ht : w'.tape = w.tape) (hp : w'.output = w.output)
    (hb : ∀ k, k ≠ B → w'.heap[k]? = w.heap[k]?) (ob : AObj) (hob : ObjR G w' i ob)
    (hl : ∀ D, G.lpD B = some D → ∃ l, w'.heap[B]? = some (.loop l) ∧ l.defers = D) (hk : w.heap[B]? ≠ some (.deferred (some []))) (hfz : h[i]? ≠ some .frozen) : Inv Γ G (h.set i ob) w' where
  below := hI.below.trans ⟨ho, ht, hp, by omega, fun k hk' => hb k (fun e => by have := (hI.base i B hi).1; omega)⟩
  fix := fun b o v e => (cell_eq (hb b (fun e' => hI.sep i B o v hfz hi (e' ▸ e)))).trans (hI.fix b o v e)
  obj := fun j ob' e => by
    rw [List.getElem?_set] at e
    split at e
    · rename_i hij
      subst hij
      split at e
      · cases e; exact hob
      · cases e
    · rename_i hij
      exact (hI.obj j ob' e).mono (Gh.le.refl G) (fun b e' => hb b (fun e'' => hij (hI.inj i j B hi (e'' ▸ e')))) (fun _ h => h) (fun h => h)
  domρ := fun j b e => by rw [List.length_set]; exact hI.domρ j b e
  domA := fun j r e => by rw [List.length_set]; exact hI.domA j r e
  inj := hI.inj
  base := fun j b e => by rw [hs]; exact hI.base j b e
  sep := fun j b o v hf e e' => by
    by_cases hj : i = j
    · subst hj; exact hI.sep i b o v hfz e e'
    · exact hI.sep j b o v (fun e'' => hf (by rw [List.getElem?_set_ne hj]; exact e'')) e e'
  arB := fun j r b c sz T e e' => (hI.arB j r b c sz T e e').mono rfl (hb b (fun e'' => (hI.arB j r b c sz T e e').ρ i (e'' ▸ hi))) (fun _ _ h => h) (fun _ h => h)
  arI := hI.arI
  lp := fun b D e => by
    obtain ⟨l, h1, h2, h3⟩ := hI.lp b D e
    by_cases hbB : b = B
    · subst hbB; obtain ⟨l', k1, k2⟩ := hl D e; exact ⟨l', k1, k2, h3⟩
    · exact ⟨l, (hb b hbB).trans h1, h2, h3⟩
  lpB := hI.lpB
  dsI := fun D e => ⟨(hb D (fun e' => hk (e' ▸ (hI.dsI D e).1))).trans (hI.dsI D e).1, (hI.dsI D e).2⟩
  glob := hI.glob
end
end Go.Abs
