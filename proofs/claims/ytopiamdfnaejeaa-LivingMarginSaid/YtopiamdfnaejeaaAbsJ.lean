/- How a function's contract comes of the walk of its body; own objects that nobody can reach any more are dropped. It says nothing of any program; no conditions. -/
import Derived.Test.YtopiamdfnaejeaaAbsI
set_option linter.unusedSimpArgs false
set_option linter.unusedVariables false
namespace Go.Abs
open Go Go.RowKit

/-- A value that speaks of objects below n alone. -/
inductive RB (n : Nat) : AV → Prop
  | top : RB n .top
  | int (k : IntKind) (x : Int) : RB n (.int k x)
  | bool (b : Bool) : RB n (.bool b)
  | str (s : ByteArray) : RB n (.str s)
  | ptrNil : RB n (.ptr none)
  | ptr {i o : Nat} (h : i < n) : RB n (.ptr (some (i, o)))
  | eptr {cs : List AV} (h : ∀ (j : Nat) (c : AV), cs[j]? = some c → RB n c) : RB n (.eptr cs)
  | sl {rows : List AV} {own : Own} (h : ∀ (k : Nat) (r : AV) (j : Nat) (c : AV), rows[k]? = some r → r.cells[j]? = some c → RB n c) (ho : ∀ i, own = .arena i → i < n) : RB n (.sl rows own)
  | ms {i off len cap sz : Nat} (h : i < n) : RB n (.ms i off len cap sz)
  | mapNil : RB n (.map none)
  | map {i : Nat} (h : i < n) : RB n (.map (some i))
  | func {f : FuncId} {fs cs : List AV} (h1 : ∀ (j : Nat) (c : AV), fs[j]? = some c → RB n c) (h2 : ∀ (j : Nat) (c : AV), cs[j]? = some c → RB n c) : RB n (.func f fs cs)
  | yield {l : Nat} (h : l < n) : RB n (.yield l)
  | nilFunc : RB n .nilFunc
  | iface {t : TypeId} {a : AV} (h : RB n a) : RB n (.iface t a)
  | nilIface : RB n .nilIface
  | agg {cs : List AV} (h : ∀ (j : Nat) (c : AV), cs[j]? = some c → RB n c) : RB n (.agg cs)
  | tuple {cs : List AV} (h : ∀ (j : Nat) (c : AV), cs[j]? = some c → RB n c) : RB n (.tuple cs)

def RBs (n : Nat) (cs : List AV) : Prop := ∀ (j : Nat) (c : AV), cs[j]? = some c → RB n c

theorem RBs.nil (n : Nat) : RBs n [] := fun j c e => by simp at e
theorem RBs.cons {n : Nat} {a : AV} {l : List AV} (h : RB n a) (k : RBs n l) : RBs n (a :: l) := fun j c e => by
  cases j with
  | zero => simp at e; subst e; exact h
  | succ j => exact k j c (by simpa using e)
theorem RB.tuple' {n : Nat} {l : List AV} (h : RBs n l) : RB n (.tuple l) := .tuple h
theorem RB.agg' {n : Nat} {l : List AV} (h : RBs n l) : RB n (.agg l) := .agg h
theorem RBs.cells {n : Nat} {a : AV} (h : RB n a) : RBs n a.cells := by
  cases h with
  | agg h => exact h
  | top => exact .cons .top (.nil n)
  | int k x => exact .cons (.int k x) (.nil n)
  | bool b => exact .cons (.bool b) (.nil n)
  | str s => exact .cons (.str s) (.nil n)
  | ptrNil => exact .cons .ptrNil (.nil n)
  | ptr h => exact .cons (.ptr h) (.nil n)
  | eptr h => exact .cons (.eptr h) (.nil n)
  | sl h ho => exact .cons (.sl h ho) (.nil n)
  | ms h => exact .cons (.ms h) (.nil n)
  | mapNil => exact .cons .mapNil (.nil n)
  | map h => exact .cons (.map h) (.nil n)
  | func h1 h2 => exact .cons (.func h1 h2) (.nil n)
  | yield h => exact .cons (.yield h) (.nil n)
  | nilFunc => exact .cons .nilFunc (.nil n)
  | iface h => exact .cons (.iface h) (.nil n)
  | nilIface => exact .cons .nilIface (.nil n)
  | tuple h => exact .cons (.tuple h) (.nil n)
/-- A list slice of values that are below n. -/
theorem RB.sl' {n : Nat} {rows : List AV} (h : ∀ r ∈ rows, RB n r) : RB n (.sl rows .free) :=
  .sl (fun _ r j c e e' => RBs.cells (h r (List.mem_of_getElem? e)) j c e') (fun _ e => by cases e)
theorem RB.slFull {n : Nat} {rows : List AV} (h : ∀ r ∈ rows, RB n r) : RB n (.sl rows .full) :=
  .sl (fun _ r j c e e' => RBs.cells (h r (List.mem_of_getElem? e)) j c e') (fun _ e => by cases e)

/-- What a ghost speaks of lies below n. -/
structure Gh.upTo (G : Gh) (n : Nat) : Prop where
  ρ : ∀ i b, G.ρ i = some b → i < n
  ar : ∀ i r, G.ar i = some r → i < n

theorem VR.rb {G : Gh} {n : Nat} (hd : G.upTo n) {a : AV} {v : Value} (h : VR G a v) : RB n a := by
  induction h with
  | top v => exact .top
  | int k x => exact .int k x
  | bool b => exact .bool b
  | str s => exact .str s
  | ptrNil => exact .ptrNil
  | ptr h => exact .ptr (hd.ρ _ _ h)
  | eptr vals hF _ ih => exact .eptr ih
  | sl vals hcap hnil hsz hF _ hown ih => exact .sl ih (fun i e => by subst e; obtain ⟨r, hr, _⟩ := hown; exact hd.ar i r hr)
  | ms h => exact .ms (hd.ρ _ _ h)
  | mapNil => exact .mapNil
  | map h => exact .map (hd.ρ _ _ h)
  | func hf hc _ _ i1 i2 => exact .func i1 i2
  | yield h => exact .yield (hd.ρ _ _ h)
  | nilFunc => exact .nilFunc
  | iface t _ ih => exact .iface ih
  | nilIface => exact .nilIface
  | agg hl _ ih => exact .agg ih
  | tuple hl _ ih => exact .tuple ih

/-- The ghost of the objects below n. -/
def Gh.cut (G : Gh) (n : Nat) : Gh := { G with ρ := fun i => if i < n then G.ρ i else none, ar := fun i => if i < n then G.ar i else none }

theorem Gh.cut_ρ {G : Gh} {n i b : Nat} (h : G.ρ i = some b) (hi : i < n) : (G.cut n).ρ i = some b := by simp [Gh.cut, hi, h]
theorem Gh.of_cut_ρ {G : Gh} {n i b : Nat} (h : (G.cut n).ρ i = some b) : G.ρ i = some b ∧ i < n := by
  simp only [Gh.cut] at h
  split at h
  · rename_i hi; exact ⟨h, hi⟩
  · cases h
theorem Gh.of_cut_ar {G : Gh} {n i : Nat} {r : Ar} (h : (G.cut n).ar i = some r) : G.ar i = some r ∧ i < n := by
  simp only [Gh.cut] at h
  split at h
  · rename_i hi; exact ⟨h, hi⟩
  · cases h

theorem VR.cut {G : Gh} {n : Nat} {a : AV} {v : Value} (h : VR G a v) (hb : RB n a) : VR (G.cut n) a v := by
  induction h with
  | top v => exact .top v
  | int k x => exact .int k x
  | bool b => exact .bool b
  | str s => exact .str s
  | ptrNil => exact .ptrNil
  | ptr h => cases hb with
    | ptr hi => exact .ptr (Gh.cut_ρ h hi)
  | eptr vals hF _ ih => cases hb with
    | eptr hb => exact .eptr vals hF (fun j c e => ih j c e (hb j c e))
  | sl vals hcap hnil hsz hF _ hown ih => cases hb with
    | sl hb ho =>
      rename_i rows own a cap sz _
      refine .sl vals hcap hnil hsz hF (fun k r j c e e' => ih k r j c e e' (hb k r j c e e')) ?_
      cases own with
      | free => trivial
      | full => exact hown
      | arena i =>
        obtain ⟨r, h1, h2, h3⟩ := hown
        exact ⟨r, by simp [Gh.cut, ho i rfl, h1], h2, h3⟩
  | ms h => cases hb with
    | ms hi => exact .ms (Gh.cut_ρ h hi)
  | mapNil => exact .mapNil
  | map h => cases hb with
    | map hi => exact .map (Gh.cut_ρ h hi)
  | func hf hc _ _ i1 i2 => cases hb with
    | func b1 b2 => exact .func hf hc (fun j c e => i1 j c e (b1 j c e)) (fun j c e => i2 j c e (b2 j c e))
  | yield h => cases hb with
    | yield hi => exact .yield (Gh.cut_ρ h hi)
  | nilFunc => exact .nilFunc
  | iface t _ ih => cases hb with
    | iface hb => exact .iface t (ih hb)
  | nilIface => exact .nilIface
  | agg hl _ ih => cases hb with
    | agg hb => exact .agg hl (fun j c e => ih j c e (hb j c e))
  | tuple hl _ ih => cases hb with
    | tuple hb => exact .tuple hl (fun j c e => ih j c e (hb j c e))

/-- Objects that speak of objects below n alone. -/
def RBobj (n : Nat) : AObj → Prop
  | .row cs _ => RBs n cs
  | .map ents _ => ∀ (j : Nat) (e : Nat × AV × AV), ents[j]? = some e → RB n e.2.1 ∧ RB n e.2.2
  | .iter m _ _ => ∀ i, m = some i → i < n
  | .loop _ _ li => ∀ i, RB n (lk li.σ i)
  | _ => True

section
variable {P : Program} {Γ : Nat → Option (List AV)} {G : Gh} {h : AH} {w : World} {N : Nat} {σ : Tm} {Q : Exit → Tm → AH → Prop}

theorem Inv.upTo (hI : Inv Γ G h w) : G.upTo h.length := ⟨hI.domρ, hI.domA⟩

theorem Inv.rbobj (hI : Inv Γ G h w) {i : Nat} {ob : AObj} (e : h[i]? = some ob) : RBobj h.length ob := by
  have ho := hI.obj i ob e
  cases ob with
  | row cs T => obtain ⟨b, vals, _, _, hv⟩ := ho; exact fun j c e => by obtain ⟨v, _, k⟩ := hv.get e; exact k.rb hI.upTo
  | map ents clk =>
    obtain ⟨b, es, _, _, hl, hv⟩ := ho
    intro j e he
    obtain ⟨x, hx⟩ : ∃ x, es[j]? = some x := ⟨_, Array.getElem?_eq_getElem (by have := (List.getElem?_eq_some_iff.1 he).1; omega)⟩
    exact ⟨(hv j e x he hx).2.1.rb hI.upTo, (hv j e x he hx).2.2.rb hI.upTo⟩
  | iter m clk seen =>
    obtain ⟨b, mb, _, _, h3⟩ := ho
    intro i hi
    subst hi
    obtain ⟨c, _, hc⟩ := h3
    exact hI.domρ _ _ hc
  | loop st pend li => obtain ⟨b, l, _, _, _, _, _, _, _, ht, _⟩ := ho; exact fun i => (ht.2 i).rb hI.upTo
  | siter s pos => trivial
  | arena n => trivial
  | dead => trivial
  | hole => trivial
  | frozen => trivial

/-- **Own objects at the end of the heap are dropped.** -/
theorem Inv.drop {l : AH} (hI : Inv Γ G (h ++ l) w) (hob : ∀ (i : Nat) (ob : AObj), h[i]? = some ob → RBobj h.length ob) (hg : ∀ (g : Nat) (cs : List AV), Γ g = some cs → RB h.length (.eptr cs)) : Inv Γ (G.cut h.length) h w where
  below := hI.below
  fix := hI.fix
  obj := fun i ob e => by
    have hi := (List.getElem?_eq_some_iff.1 e).1
    have ho := hI.obj i ob (by rw [List.getElem?_append_left hi]; exact e)
    have hb := hob i ob e
    cases ob with
    | row cs T => obtain ⟨b, vals, h1, h2, hv⟩ := ho; exact ⟨b, vals, Gh.cut_ρ h1 hi, h2, hv.1, fun j c e => (hv.2 j c e).cut (hb j c e)⟩
    | map ents clk =>
      obtain ⟨b, es, h1, h2, hl, hv⟩ := ho
      exact ⟨b, es, Gh.cut_ρ h1 hi, h2, hl, fun j e x he hx => ⟨(hv j e x he hx).1, (hv j e x he hx).2.1.cut (hb j e he).1, (hv j e x he hx).2.2.cut (hb j e he).2⟩⟩
    | iter m clk seen =>
      obtain ⟨b, mb, h1, h2, h3⟩ := ho
      refine ⟨b, mb, Gh.cut_ρ h1 hi, h2, ?_⟩
      cases m with
      | none => exact h3
      | some j => obtain ⟨c, e1, e2⟩ := h3; exact ⟨c, e1, Gh.cut_ρ e2 (hb j rfl)⟩
    | siter s pos => obtain ⟨b, h1, h2⟩ := ho; exact ⟨b, Gh.cut_ρ h1 hi, h2⟩
    | arena n => obtain ⟨r, h1, h2⟩ := ho; exact ⟨r, by simp [Gh.cut, hi, h1], h2⟩
    | loop st pend li =>
      obtain ⟨b, lp, h1, h2, h3, h4, h5, h6, h7, h8, h9⟩ := ho
      exact ⟨b, lp, Gh.cut_ρ h1 hi, h2, h3, h4, h5, h6, h7, ⟨h8.1, fun i => (h8.2 i).cut (hb i)⟩, h9⟩
    | dead => trivial
    | hole => exact ⟨by simp [Gh.cut, ho.1], by simp [Gh.cut, ho.2]⟩
    | frozen => trivial
  domρ := fun i b e => (Gh.of_cut_ρ e).2
  domA := fun i r e => (Gh.of_cut_ar e).2
  inj := fun i j b e e' => hI.inj i j b (Gh.of_cut_ρ e).1 (Gh.of_cut_ρ e').1
  base := fun i b e => hI.base i b (Gh.of_cut_ρ e).1
  sep := fun i b o v hf e e' => hI.sep i b o v (fun e'' => hf (by rw [List.getElem?_append_left (Gh.of_cut_ρ e).2] at e''; exact e'')) (Gh.of_cut_ρ e).1 e'
  arB := fun i r b c sz T e e' => (hI.arB i r b c sz T (Gh.of_cut_ar e).1 e').mono (G' := G.cut h.length) rfl rfl (fun _ _ h => h) (fun j e => (Gh.of_cut_ρ e).1)
  arI := fun i j r r' b c sz T c' sz' T' e1 e2 e3 e4 => hI.arI i j r r' b c sz T c' sz' T' (Gh.of_cut_ar e1).1 (Gh.of_cut_ar e2).1 e3 e4
  lp := hI.lp
  lpB := hI.lpB
  dsI := hI.dsI
  glob := fun g cs e => (hI.glob g cs e).cut (hg g cs e)

theorem Gh.le_cut {G G' : Gh} (hle : G.le G') {n : Nat} (hd : G.upTo n) : G.le (G'.cut n) :=
  ⟨hle.w0, fun i b e => Gh.cut_ρ (hle.ρ i b e) (hd.ρ i b e), hle.F, fun i r e => by
    obtain ⟨r', h1, h2⟩ := hle.ar i r e
    exact ⟨r', by simp [Gh.cut, hd.ar i r e, h1], h2⟩, hle.lpD, hle.ds, hle.lpN⟩

theorem Inv.rbglob (hI : Inv Γ G h w) (g : Nat) (cs : List AV) (e : Γ g = some cs) : RB h.length (.eptr cs) := (hI.glob g cs e).rb hI.upTo

/-- **A contract that leaves the heap as it was**: what the callee has made is dropped. -/
theorem ACalls.drop {f : FuncId} {args : List AV} {R : AV → Prop} (H : ACalls P Γ f args h fun v h' => (∃ l, h' = h ++ l) ∧ RB h.length v ∧ R v) : ACalls P Γ f args h fun v h' => h' = h ∧ R v :=
  ⟨H.1, fun G w vs hI hv => (H.2 G w vs hI hv).mono fun e w' hr => by
    obtain ⟨v, G', av, h', rfl, h2, h3, h4, ⟨l, rfl⟩, h6, h7⟩ := hr
    exact ⟨v, G'.cut h.length, av, h, rfl, Gh.le_cut h2 hI.upTo, h3.drop (fun i ob e => hI.rbobj e) hI.rbglob, h4.cut h6, rfl, h7⟩⟩

/-! ### The end of a function -/
theorem VR.same {G G' : Gh} (hρ : G'.ρ = G.ρ) (hF : G'.F = G.F) (har : G'.ar = G.ar) {a : AV} {v : Value} (hv : VR G a v) : VR G' a v := by
  induction hv with
  | top v => exact .top v
  | int k x => exact .int k x
  | bool b => exact .bool b
  | str s => exact .str s
  | ptrNil => exact .ptrNil
  | ptr h => exact .ptr (by rw [hρ]; exact h)
  | eptr vals hF' _ ih => exact .eptr vals (by rw [hF]; exact hF') ih
  | sl vals hcap hnil hsz hF' _ hown ih =>
    rename_i rows own a cap sz _
    refine .sl vals hcap hnil hsz (by rw [hF]; exact hF') ih ?_
    cases own with
    | free => trivial
    | full => exact hown
    | arena i => obtain ⟨r, h1, h2⟩ := hown; exact ⟨r, by rw [har]; exact h1, h2⟩
  | ms h => exact .ms (by rw [hρ]; exact h)
  | mapNil => exact .mapNil
  | map h => exact .map (by rw [hρ]; exact h)
  | func hf hc _ _ i1 i2 => exact .func hf hc i1 i2
  | yield h => exact .yield (by rw [hρ]; exact h)
  | nilFunc => exact .nilFunc
  | iface t _ ih => exact .iface t ih
  | nilIface => exact .nilIface
  | agg hl _ ih => exact .agg hl ih
  | tuple hl _ ih => exact .tuple hl ih

theorem Inv.endD (hI : Inv Γ G h w) {D : Nat} (hD : G.ds D) (hN : ∀ b, G.lpD b ≠ some D) : Inv Γ { G with ds := fun x => G.ds x ∧ x ≠ D } h (w.putObj D (.deferred none)) := by
  have hd := (hI.dsI D hD).1
  have hoth : ∀ k, k ≠ D → (w.putObj D (.deferred none)).heap[k]? = w.heap[k]? := fun k hk => World.putObj_heap_other hk
  generalize hG' : ({ G with ds := fun x => G.ds x ∧ x ≠ D } : Gh) = G'
  have hF : G'.F = G.F := by subst hG'; rfl
  have hρ : G'.ρ = G.ρ := by subst hG'; rfl
  have har : G'.ar = G.ar := by subst hG'; rfl
  have hlp : G'.lpD = G.lpD := by subst hG'; rfl
  have hw0 : G'.w0 = G.w0 := by subst hG'; rfl
  have hds : ∀ x, G'.ds x ↔ G.ds x ∧ x ≠ D := fun x => by subst hG'; exact Iff.rfl
  have hVR : ∀ {a : AV} {v : Value}, VR G a v → VR G' a v := fun hv => hv.same hρ hF har
  have hne : ∀ {b : Nat} {o : Obj}, w.heap[b]? = some o → (∀ x, o ≠ .deferred x) → b ≠ D := fun hb ho e => by subst e; rw [hd] at hb; cases hb; exact ho _ rfl
  exact {
    below := by rw [hw0]; exact hI.below.trans ⟨rfl, rfl, rfl, by simp [World.putObj], fun k hk => hoth k (fun e => by have := (hI.dsI D hD).2; omega)⟩
    fix := fun b o v e => by
      rw [hF] at e
      have hc := hI.fix b o v e
      refine (cell_eq (hoth b (fun e' => ?_))).trans hc
      subst e'
      simp [World.cell?, hd] at hc
    obj := fun i ob e => by
      have ho := hI.obj i ob e
      cases ob with
      | row cs T => obtain ⟨b, vals, h1, h2, hv⟩ := ho; exact ⟨b, vals, by rw [hρ]; exact h1, (hoth b (hne h2 (by simp))).trans h2, hv.1, fun j c e => hVR (hv.2 j c e)⟩
      | map ents clk =>
        obtain ⟨b, es, h1, h2, hl, hv⟩ := ho
        exact ⟨b, es, by rw [hρ]; exact h1, (hoth b (hne h2 (by simp))).trans h2, hl, fun j e x he hx => ⟨(hv j e x he hx).1, hVR (hv j e x he hx).2.1, hVR (hv j e x he hx).2.2⟩⟩
      | iter m clk seen =>
        obtain ⟨b, mb, h1, h2, h3⟩ := ho
        refine ⟨b, mb, by rw [hρ]; exact h1, (hoth b (hne h2 (by simp))).trans h2, ?_⟩
        cases m with
        | none => exact h3
        | some j => rw [hρ]; exact h3
      | siter s pos => obtain ⟨b, h1, h2⟩ := ho; exact ⟨b, by rw [hρ]; exact h1, (hoth b (hne h2 (by simp))).trans h2⟩
      | arena n => obtain ⟨r, h1, h2⟩ := ho; exact ⟨r, by rw [har]; exact h1, h2⟩
      | loop st pend li =>
        obtain ⟨b, lp, h1, h2, h3, h4, h5, h6, h7, h8, h9⟩ := ho
        exact ⟨b, lp, by rw [hρ]; exact h1, (hoth b (hne h2 (by simp))).trans h2, h3, h4, h5, h6, h7, ⟨h8.1, fun i => hVR (h8.2 i)⟩, by rw [hlp]; exact h9⟩
      | dead => trivial
      | hole => exact ⟨by rw [hρ]; exact ho.1, by rw [har]; exact ho.2⟩
      | frozen => trivial
    domρ := by rw [hρ]; exact hI.domρ
    domA := by rw [har]; exact hI.domA
    inj := by rw [hρ]; exact hI.inj
    base := by rw [hρ, hw0]; exact fun i b e => ⟨(hI.base i b e).1, by simpa [World.putObj] using (hI.base i b e).2⟩
    sep := by rw [hρ, hF]; exact hI.sep
    arB := fun i r b c sz T e e' => by
      rw [har] at e
      obtain ⟨cells, k1, _⟩ := (hI.arB i r b c sz T e e').blk
      exact (hI.arB i r b c sz T e e').mono hw0 (hoth b (hne k1 (by simp))) (fun o v h => by rwa [hF] at h) (fun j h => by rwa [hρ] at h)
    arI := by rw [har]; exact hI.arI
    lp := fun b D' e => by
      rw [hlp] at e
      obtain ⟨l, h1, h2, h3⟩ := hI.lp b D' e
      exact ⟨l, (hoth b (hne h1 (by simp))).trans h1, h2, (hds D').2 ⟨h3, fun e' => hN b (e' ▸ e)⟩⟩
    lpB := by rw [hlp, hw0]; exact hI.lpB
    dsI := fun D' e => by
      obtain ⟨h1, h2⟩ := (hds D').1 e
      rw [hw0]
      exact ⟨(hoth D' h2).trans (hI.dsI D' h1).1, (hI.dsI D' h1).2⟩
    glob := fun g cs e => hVR (hI.glob g cs e) }

theorem Gh.le_endD {G G' : Gh} (hle : G.le G') {D : Nat} (hD : ¬ G.ds D) : G.le { G' with ds := fun x => G'.ds x ∧ x ≠ D } :=
  ⟨hle.w0, hle.ρ, hle.F, hle.ar, hle.lpD, fun x e => ⟨hle.ds x e, fun e' => hD (e' ▸ e)⟩, hle.lpN⟩

/-- What a function hands back. -/
def aResL (P : Program) (σ : Tm) (h : AH) : List ResultVar → (List AV → Prop) → Prop
  | [], k => k []
  | .tmp t :: r, k => aResL P σ h r fun vs => k (lk σ t :: vs)
  | .cell a t :: r, k => aLoad P t (lk σ a) h fun v _ => aResL P σ h r fun vs => k (v :: vs)
def oneOf : List AV → AV
  | [v] => v
  | vs => .tuple vs
/-- How a function's body may end. -/
def endA (P : Program) (rs : List ResultVar) (R : AV → AH → Prop) (e : Exit) (σ : Tm) (h : AH) : Prop :=
  (e = .ret ∨ e = .normal) ∧ aResL P σ h rs fun vs => R (oneOf vs) h

/-- What one result reads as. -/
def readRes (t : Array Value) : ResultVar → Sem Value
  | .tmp x => pure (t.getD x undef)
  | .cell a ty => do loadVar ty (← asAddr (t.getD a undef))
theorem results_eq (fn : Func) (t : Array Value) : results fn t = (do let vs ← fn.results.mapM (readRes t); pure (if h : vs.size = 1 then vs[0] else .tuple vs)) := rfl

theorem resL_ok (hI : Inv Γ G h w) {t : Array Value} (ht : TR N G σ t) : ∀ (rs : List ResultVar) {k : List AV → Prop}, aResL P σ h rs k →
    ∃ us vs, (rs.mapM (readRes t)).run P w = .ok us w ∧ us.length = vs.length ∧ VRs G vs us.toArray ∧ k vs := by
  intro rs
  induction rs with
  | nil => intro k H; exact ⟨[], [], rfl, rfl, VRs.nil G, H⟩
  | cons x r ih =>
    intro k H
    cases x with
    | tmp x =>
      obtain ⟨us, vs, h1, h2, h3, h4⟩ := ih (k := fun vs => k (lk σ x :: vs)) H
      refine ⟨t.getD x undef :: us, lk σ x :: vs, by simp only [List.mapM_cons, readRes, Sem.run_bind, Sem.run_pure, Result.andThen_ok, h1], by simp [h2], ?_, h4⟩
      have := VRs.cons (ht.2 x) h3
      simpa using this
    | cell a ty =>
      simp only [aResL] at H
      obtain ⟨ad, u, av, e, r1, hv, H⟩ := loadAt_same (P := P) hI (ht.2 a) H
      obtain ⟨us, vs, h1, h2, h3, h4⟩ := ih (k := fun vs => k (av :: vs)) H
      refine ⟨u :: us, av :: vs, ?_, by simp [h2], ?_, h4⟩
      · have hr : (readRes t (.cell a ty)).run P w = .ok u w := by simp only [readRes, e, asAddr, pure_bind, r1]
        simp only [List.mapM_cons, Sem.run_bind, hr, Sem.run_pure, Result.andThen_ok, h1]
      have := VRs.cons hv h3
      simpa using this

theorem results_ok (hI : Inv Γ G h w) {t : Array Value} (ht : TR N G σ t) {fn : Func} {rs : List ResultVar} (hrs : fn.results = rs.toArray) {K : AV → Prop} (H : aResL P σ h rs fun vs => K (oneOf vs)) :
    ∃ u av, (results fn t).run P w = .ok u w ∧ VR G av u ∧ K av := by
  obtain ⟨us, vs, h1, h2, h3, h4⟩ := resL_ok (P := P) hI ht rs H
  refine ⟨if h : us.toArray.size = 1 then us.toArray[0] else .tuple us.toArray, oneOf vs, ?_, ?_, h4⟩
  · rw [results_eq, hrs, Array.mapM_eq_mapM_toList]
    simp only [Sem.run_bind, Sem.run_map, h1, Result.andThen_ok, Sem.run_pure]
  · match vs, us, h2, h3 with
    | [], [], _, h3 => exact .tuple h3.1 h3.2
    | [v], [u], _, h3 =>
      obtain ⟨u', e1, e2⟩ := h3.get (j := 0) rfl
      simp at e1; subst e1
      simpa [oneOf] using e2
    | v :: v' :: vs, u :: u' :: us, _, h3 =>
      simp only [oneOf, List.size_toArray, List.length_cons]
      rw [dif_neg (by omega)]
      exact .tuple h3.1 h3.2

/-- The arguments as temporaries. -/
def argsT : Nat → List AV → Tm
  | _, [] => []
  | i, a :: r => (i, a) :: argsT (i + 1) r

theorem lk_argsT : ∀ (as : List AV) (i j : Nat), lk (argsT i as) j = if i ≤ j then (as[j - i]?).getD .top else .top
  | [], i, j => by simp [argsT, lk]
  | a :: r, i, j => by
    simp only [argsT, lk]
    by_cases e : j = i
    · subst e; simp
    · rw [if_neg e, lk_argsT r (i + 1) j]
      by_cases h : i ≤ j
      · rw [if_pos h, if_pos (by omega), show j - i = (j - (i + 1)) + 1 from by omega, List.getElem?_cons_succ]
      · rw [if_neg h, if_neg (by omega)]

theorem args_TR {as : List AV} {vs : Array Value} (hv : VRs G as vs) (hN : as.length ≤ N) : TR N G (argsT 0 as) (vs ++ Array.replicate (N - vs.size) undef) := by
  have hs := hv.1
  refine ⟨by simp; omega, fun i => ?_⟩
  rw [lk_argsT, if_pos (Nat.zero_le _), Nat.sub_zero]
  cases e : as[i]? with
  | none => exact .top _
  | some c =>
    obtain ⟨u, h1, h2⟩ := hv.get e
    have hi : i < vs.size := (Array.getElem?_eq_some_iff.1 h1).1
    simp only [Option.getD_some]
    rw [Array.getD_eq_getD_getElem?, Array.getElem?_append_left hi, h1]
    exact h2

theorem enters_ok {f : FuncId} {fn : Func} {c : Code} (hf : P.funcs[f]? = some fn) (hb : fn.body = some c) (hn : (fn.name == "runtime.NumGoroutine") = false) (vs : Array Value) (w : World) : (callFunc f vs).run P w = .ok (.enter f vs) w := by
  have hn' : ¬ fn.name = "runtime.NumGoroutine" := by simpa using hn
  simp [callFunc, hf, hb, hn']

theorem leaves_marks {fn : Func} {t : Array Value} {G0 : Gh} {R : AV → AH → Prop} {rs : List ResultVar} (hrs : fn.results = rs.toArray) : ∀ (Ds : List Nat) (G : Gh) (h : AH) (w : World), G0.le G → Inv Γ G h w → TR N G σ t → (∀ D ∈ Ds, ¬ G0.ds D ∧ G.ds D ∧ ∀ b, G.lpD b ≠ some D) → Ds.Nodup →
    aResL P σ h rs (fun vs => R (oneOf vs) h) → LeavesInM (Fr none) 0 P fn t (Res Γ G0 R) (Ds.map mark) .returning w := by
  intro Ds
  induction Ds with
  | nil =>
    intro G h w hle hI ht _ _ H
    obtain ⟨u, av, h1, h2, h3⟩ := results_ok (P := P) hI ht hrs (K := fun v => R v h) H
    exact ⟨u, h1, u, G, av, h, rfl, hle, hI, h2, h3⟩
  | cons D Ds ih =>
    intro G h w hle hI ht hD hnd H
    obtain ⟨d1, d2, d3⟩ := hD D (List.mem_cons_self ..)
    refine ⟨by simp, .inl ⟨D, _, rfl, run_takeDeferred (hI.dsI D d2).1, ?_⟩⟩
    have hle' := Gh.le_endD hle d1
    have hI' := hI.endD d2 d3
    rw [List.nodup_cons] at hnd
    refine ih _ h _ hle' hI' ⟨ht.1, fun i => ?_⟩ (fun D' hD' => ?_) hnd.2 H
    · refine VR.same (G := G) ?_ ?_ ?_ (ht.2 i) <;> rfl
    · obtain ⟨e1, e2, e3⟩ := hD D' (List.mem_cons_of_mem _ hD')
      exact ⟨e1, ⟨e2, fun e => hnd.1 (e ▸ hD')⟩, e3⟩

/-- **A function's contract from the walk of its body.** -/
theorem acalls_of_awp {f : FuncId} {fn : Func} {c : Code} {args : List AV} {rs : List ResultVar} {R : AV → AH → Prop} (hf : P.funcs[f]? = some fn) (hb : fn.body = some c) (hn : (fn.name == "runtime.NumGoroutine") = false)
    (hN : Nat.ble args.length fn.ntmps = true) (hrs : fn.results = rs.toArray) (H : AWP P Γ fn.ntmps c (endA P rs R) (argsT 0 args) h) : ACalls P Γ f args h R := by
  refine ⟨fun vs w => enters_ok hf hb hn vs w, fun G w vs hI hv => ?_⟩
  refine (callsIn_Fr (r := none) (n := 0)).1 (callsIn_of_wp_marks hf hb trivial ?_)
  refine wpIn_mono (H none G w _ (fun l e => by cases e) hI (args_TR hv (Nat.le_of_ble_eq_true hN))) fun e a' w' hp => ?_
  obtain ⟨G', σ', h', Ds, h1, h2, h3, h4, h5, h6, h7, h8⟩ := hp
  simp only [List.append_nil] at h4
  rcases h7 with rfl | rfl
  · show LeavesInM (Fr none) 0 P fn a'.tmps (Res Γ G R) a'.defers .returning w'
    rw [h4]
    exact leaves_marks hrs Ds G' h' w' h1 h2 h3 h5 h6 h8
  · show LeavesInM (Fr none) 0 P fn a'.tmps (Res Γ G R) a'.defers .returning w'
    rw [h4]
    exact leaves_marks hrs Ds G' h' w' h1 h2 h3 h5 h6 h8
end
end Go.Abs
