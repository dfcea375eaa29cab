/- Texts joined: AbsQ. No conditions. -/
import Derived.Test.YtjdhgaflenhljaaGreatDoorMrG
import Derived.Test.YtjdhgaflenhljaaGreatDoorRows
import Derived.ProofKit
import Derived.OpenShut
import Derived.JoinedCond
import Derived.Carry
/- From the form of a statement to contracts over abstract values: what is read, as an abstract value of its type; the form closed. It says nothing of any program; no conditions. -/
set_option linter.unusedSimpArgs false
set_option linter.unusedVariables false
namespace Go.Abs
open Go Go.RowKit

mutual
/-- A reading as an abstract value. -/
def ofD {H : Type} : DataW H → AV
  | .lit l => ofLit l
  | .nil => .sl [] .free
  | .slice elems _ => .sl (ofDs elems) .free
  | .agg parts => .agg (ofCs parts)
  | .ptr _ => .top
  | .iface _ _ => .top
  | .map _ => .top
  | .held _ => .top
def ofDs {H : Type} : List (DataW H) → List AV
  | [] => []
  | d :: r => ofD d :: ofDs r
def ofCs {H : Type} : List (DataW H) → List AV
  | [] => []
  | d :: r => (ofD d).cells ++ ofCs r
def ofLit : Lit → AV
  | .int k n => .int k n
  | .bool b => .bool b
  | .string bytes => .str ⟨bytes.toArray⟩
  | _ => .top
end
theorem ofDs_map {H : Type} (l : List (DataW H)) : ofDs l = l.map ofD := by
  induction l with
  | nil => rfl
  | cons d r ih => simp [ofDs, ih]
theorem ofCs_flat {H : Type} (l : List (DataW H)) : ofCs l = (l.map ofD).flatMap AV.cells := by
  induction l with
  | nil => rfl
  | cons d r ih => simp [ofCs, ih]

/-- An abstract value of a type: plain data, each list of at most B elements. -/
inductive Typed (P : Program) (B : Nat) : TypeId → AV → Prop
  | bool {t : TypeId} {b : Bool} (h : P.underlying t = some .bool) : Typed P B t (.bool b)
  | int {t : TypeId} {k : IntKind} {n : Int} (h : P.underlying t = some (.int k)) (h1 : k.min ≤ n) (h2 : n ≤ k.max) : Typed P B t (.int k n)
  | str {t : TypeId} {s : ByteArray} (h : P.underlying t = some .string) (h1 : s.size ≤ B) : Typed P B t (.str s)
  | sl {t e : TypeId} {rows : List AV} (h : P.underlying t = some (.slice e)) (h1 : rows.length ≤ B) (h2 : ∀ r ∈ rows, Typed P B e r) : Typed P B t (.sl rows .free)
  | struct {t : TypeId} {fs : Array Field} {ps : List AV} (h : P.underlying t = some (.struct fs)) (h1 : ps.length = fs.size) (h2 : ∀ (j : Nat) (f : Field) (p : AV), fs[j]? = some f → ps[j]? = some p → Typed P B f.type p) :
      Typed P B t (.agg (ps.flatMap AV.cells))
  | array {t e : TypeId} {n : Nat} {ps : List AV} (h : P.underlying t = some (.array n e)) (h1 : ps.length = n) (h2 : ∀ p ∈ ps, Typed P B e p) : Typed P B t (.agg (ps.flatMap AV.cells))

/-- Fields that lie one behind the other, and fill all. -/
def tiles (P : Program) : List Field → Nat → Nat → Bool
  | [], o, n => Nat.beq o n
  | f :: r, o, n => Nat.beq f.offset o && tiles P r (o + P.cellsOf f.type) n

/-- Types of plain data: what they are made of is in the list, too. -/
def plainStep (P : Program) (L : List TypeId) (t : TypeId) : Bool :=
  match P.underlying t with
  | some .bool | some (.int _) | some .string => true
  | some (.slice e) => L.contains e
  | some (.struct fs) => tiles P fs.toList 0 (P.cellsOf t) && fs.toList.all fun f => L.contains f.type
  | some (.array n e) => L.contains e && Nat.beq (P.cellsOf t) (n * P.cellsOf e)
  | _ => false
def plainAll (P : Program) (L : List TypeId) : Bool := L.all (plainStep P L)

theorem cells?_get {w : World} {base : Nat} {a : Addr} {n : Nat} {cs : List Value} (h : w.cells? base a n = some cs) : cs.length = n ∧ ∀ j v, cs[j]? = some v → w.cell? (a.add j) = some v := by
  unfold World.cells? at h
  split at h
  · have hl := mapM_some_length h
    rw [List.length_range] at hl
    refine ⟨hl, fun j v hv => ?_⟩
    have hj : j < n := hl ▸ (List.getElem?_eq_some_iff.1 hv).1
    rw [← hv]
    exact mapM_some_get h j j (by simp [hj])
  · cases h

section
variable {H : Type} {enc : TypeId × Value → H} {P : Program} {w : World} {base : Nat} {spare : Nat → Bool} {held : Bool} {L : List TypeId} {G : Gh}

theorem struct_flat {cs : List Value} : ∀ (fs : List Field) (ps : List AV) (o n : Nat), tiles P fs o n = true → ps.length = fs.length →
    (∀ (j : Nat) (f : Field) (p : AV), fs[j]? = some f → ps[j]? = some p → p.cells.length = P.cellsOf f.type ∧ ∀ (i : Nat) (c : AV) (v : Value), p.cells[i]? = some c → cs[f.offset + i]? = some v → VR G c v) →
    o + (ps.flatMap AV.cells).length = n ∧ ∀ (j : Nat) (c : AV) (v : Value), (ps.flatMap AV.cells)[j]? = some c → cs[o + j]? = some v → VR G c v
  | [], [], o, n, ht, _, _ => by
    simp only [tiles] at ht
    exact ⟨by simpa using Nat.eq_of_beq_eq_true ht, fun j c v h => by simp at h⟩
  | [], _ :: _, _, _, _, h, _ => by simp at h
  | _ :: _, [], _, _, _, h, _ => by simp at h
  | f :: fs, p :: ps, o, n, ht, hl, hv => by
    simp only [tiles, Bool.and_eq_true] at ht
    have ho := Nat.eq_of_beq_eq_true ht.1
    obtain ⟨h1, h2⟩ := hv 0 f p rfl rfl
    obtain ⟨k1, k2⟩ := struct_flat fs ps _ n ht.2 (by simpa using hl) fun j f p hf hp => hv (j + 1) f p (by simpa using hf) (by simpa using hp)
    refine ⟨by rw [List.flatMap_cons, List.length_append, h1]; omega, fun j c v h h' => ?_⟩
    rw [List.flatMap_cons, List.getElem?_append] at h
    split at h
    · exact h2 j c v h (by rw [ho]; exact h')
    · rename_i hj
      exact k2 (j - p.cells.length) c v h (by rw [← h']; congr 1; omega)

theorem array_flat {cs : List Value} (sz : Nat) : ∀ (ps : List AV) (o : Nat), (∀ (j : Nat) (p : AV), ps[j]? = some p → p.cells.length = sz ∧ ∀ (i : Nat) (c : AV) (v : Value), p.cells[i]? = some c → cs[o + j * sz + i]? = some v → VR G c v) →
    (ps.flatMap AV.cells).length = ps.length * sz ∧ ∀ (j : Nat) (c : AV) (v : Value), (ps.flatMap AV.cells)[j]? = some c → cs[o + j]? = some v → VR G c v
  | [], o, _ => ⟨by simp, fun j c v h => by simp at h⟩
  | p :: ps, o, hv => by
    obtain ⟨h1, h2⟩ := hv 0 p rfl
    obtain ⟨k1, k2⟩ := array_flat sz ps (o + sz) fun j p hp => by
      obtain ⟨e1, e2⟩ := hv (j + 1) p (by simpa using hp)
      refine ⟨e1, fun i c v hc hv' => e2 i c v hc ?_⟩
      rw [← hv']; congr 1; rw [Nat.succ_mul]; omega
    refine ⟨by rw [List.flatMap_cons, List.length_append, h1, k1, List.length_cons, Nat.succ_mul]; omega, fun j c v h h' => ?_⟩
    rw [List.flatMap_cons, List.getElem?_append] at h
    split at h
    · exact h2 j c v h (by simpa using h')
    · exact k2 (j - p.cells.length) c v h (by rw [← h']; congr 1; omega)

theorem addr_add2 {a : Addr} (e : a = ⟨a.block, a.off, none⟩) (x y : Nat) : (a.add x).add y = ⟨a.block, a.off + x + y, none⟩ := by
  obtain ⟨b, o, s⟩ := a
  cases e
  unfold Addr.add
  by_cases hx : x = 0 <;> by_cases hy : y = 0 <;> simp [hx, hy, Nat.add_assoc]

/-- **What is read, as an abstract value**: of its type, and it stands for what was read. -/
theorem trod_VR (hG : ∀ b o v, w.cell? ⟨b, o, none⟩ = some v → G.F b o = some v) (hL : plainAll P L = true) : ∀ (fuel : Nat) (t : TypeId) (cs : List Value) (x : DataW H × List MemPlace), L.contains t = true →
    DataW.trod enc P w base spare held fuel t cs = some x → Typed P maxLen t (ofD x.1) ∧ (ofD x.1).cells.length = cs.length ∧ ∀ (j : Nat) (c : AV) (v : Value), (ofD x.1).cells[j]? = some c → cs[j]? = some v → VR G c v
  | fuel, t, cs, x, ht, h => by
    have hs : plainStep P L t = true := by
      have := hL
      simp only [plainAll, List.all_eq_true] at this
      exact this t (by simpa using ht)
    unfold plainStep at hs
    split at hs
    · rename_i hu
      obtain ⟨b, rfl, rfl⟩ := DataW.trod_bool hu h
      refine ⟨.bool hu, rfl, fun j c v hc hv => ?_⟩
      cases j <;> simp [ofD, ofLit, AV.cells] at hc hv
      subst hc; subst hv; exact .bool b
    · rename_i k hu
      obtain ⟨n, rfl, rfl, hwf⟩ := DataW.trod_int hu h
      have hr : k.min ≤ n ∧ n ≤ k.max := by simpa [Lit.wf] using hwf
      refine ⟨.int hu hr.1 hr.2, rfl, fun j c v hc hv => ?_⟩
      cases j <;> simp [ofD, ofLit, AV.cells] at hc hv
      subst hc; subst hv; exact .int k n
    · rename_i hu
      obtain ⟨s, rfl, rfl, hsz⟩ := DataW.trod_string hu h
      refine ⟨.str hu (by simpa [ofD, ofLit] using hsz), rfl, fun j c v hc hv => ?_⟩
      cases j <;> simp [ofD, ofLit, AV.cells] at hc hv
      subst hc; subst hv; exact .str s
    · rename_i e hu
      rcases DataW.trod_slice hu h with ⟨rfl, rfl⟩ | ⟨a, len, cap, elems, rest, n, rfl, rfl, rfl, hb, hlc, hcap, hlen, hel, _, _⟩
      · refine ⟨.sl hu (by simp) (by simp), rfl, fun j c v hc hv => ?_⟩
        cases j <;> simp [ofD, AV.cells] at hc hv
        subst hc; subst hv
        exact VR.sl (rows := []) (a := none) (cap := 0) (sz := 0) (fun _ _ => undef) (by simp) (fun _ => rfl) (by simp) (by simp) (by simp) trivial
      · have hrow : ∀ (i : Nat) (r : AV), (ofDs (elems.map (·.1)))[i]? = some r → ∃ es : List Value, w.cells? base (a.add (i * P.cellsOf e)) (P.cellsOf e) = some es ∧ Typed P maxLen e r ∧ r.cells.length = es.length ∧
            ∀ (j : Nat) (c : AV) (v : Value), r.cells[j]? = some c → es[j]? = some v → VR G c v := fun i r hr => by
          rw [ofDs_map, List.map_map, List.getElem?_map] at hr
          obtain ⟨y, hy, rfl⟩ := Option.map_eq_some_iff.1 hr
          have hi : i < len := hlen ▸ (List.getElem?_eq_some_iff.1 hy).1
          have := hel i hi
          rw [hy] at this
          obtain ⟨es, h1, h2⟩ := Option.bind_eq_some_iff.1 this
          obtain ⟨k1, k2, k3⟩ := trod_VR hG hL n e es y hs h2
          exact ⟨es, h1, k1, k2, k3⟩
        have hlen' : (ofDs (elems.map (·.1))).length = len := by rw [ofDs_map]; simp [hlen]
        refine ⟨.sl hu (by omega) (fun r hr => ?_), rfl, fun j c v hc hv => ?_⟩
        · obtain ⟨i, hi⟩ := List.getElem?_of_mem hr
          obtain ⟨es, _, k, _⟩ := hrow i r hi
          exact k
        · have ha : ∀ (i : Nat) (r : AV) (j : Nat) (c : AV), (ofDs (elems.map (·.1)))[i]? = some r → r.cells[j]? = some c → a = ⟨a.block, a.off, none⟩ := fun i r j c hr hc => by
            obtain ⟨es, h1, _, h3, _⟩ := hrow i r hr
            obtain ⟨c1, c2⟩ := cells?_get h1
            have hj : j < P.cellsOf e := by rw [← c1, ← h3]; exact (List.getElem?_eq_some_iff.1 hc).1
            have hi : i < elems.length := by rw [hlen, ← hlen']; exact (List.getElem?_eq_some_iff.1 hr).1
            obtain ⟨es0, h1, _, _⟩ := hrow 0 (ofD elems[0].1) (by rw [ofDs_map, List.map_map, List.getElem?_map, List.getElem?_eq_getElem (by omega)]; rfl)
            obtain ⟨d1, d2⟩ := cells?_get h1
            have := d2 0 es0[0] (by rw [List.getElem?_eq_getElem (by omega)])
            rw [Nat.zero_mul, Addr.add, if_pos rfl, Addr.add, if_pos rfl] at this
            unfold World.cell? at this
            split at this
            · split at this
              · cases this
              · rename_i hsp
                obtain ⟨ab, ao, asp⟩ := a
                cases asp with
                | none => rfl
                | some _ => exact absurd rfl hsp
            · cases this
          cases j with
          | succ j => simp [ofD, AV.cells] at hc
          | zero =>
            simp only [ofD, AV.cells, List.getElem?_cons_zero, Option.some.injEq] at hc hv
            subst hc; subst hv
            have hvr := VR.sl (G := G) (rows := ofDs (elems.map (·.1))) (own := .free) (a := some a) (cap := cap) (sz := P.cellsOf e) (fun i j => (w.cell? ⟨a.block, a.off + i * P.cellsOf e + j, none⟩).getD undef) (by omega) (fun h => by cases h)
              (fun i r hr => by
                obtain ⟨es, h1, _, h3, _⟩ := hrow i r hr
                rw [h3]; exact (cells?_get h1).1)
              (fun i r j c hr hc => by
                obtain ⟨es, h1, _, h3, _⟩ := hrow i r hr
                obtain ⟨c1, c2⟩ := cells?_get h1
                have hj : j < es.length := by rw [← h3]; exact (List.getElem?_eq_some_iff.1 hc).1
                have h4 := c2 j es[j] (List.getElem?_eq_getElem hj)
                have e0 := ha i r j c hr hc
                have e1 : (a.add (i * P.cellsOf e)).add j = ⟨a.block, a.off + i * P.cellsOf e + j, none⟩ := by
                  exact addr_add2 e0 _ _
                rw [e1] at h4
                refine ⟨a.block, a.off, by rw [← e0], ?_⟩
                rw [h4]; exact hG _ _ _ h4)
              (fun i r j c hr hc => by
                obtain ⟨es, h1, _, h3, h5⟩ := hrow i r hr
                obtain ⟨c1, c2⟩ := cells?_get h1
                have hj : j < es.length := by rw [← h3]; exact (List.getElem?_eq_some_iff.1 hc).1
                have h4 := c2 j es[j] (List.getElem?_eq_getElem hj)
                have e0 := ha i r j c hr hc
                have e1 : (a.add (i * P.cellsOf e)).add j = ⟨a.block, a.off + i * P.cellsOf e + j, none⟩ := by
                  exact addr_add2 e0 _ _
                rw [e1] at h4
                rw [h4]
                exact h5 j c _ hc (List.getElem?_eq_getElem hj)) trivial
            rw [hlen'] at hvr
            exact hvr
    · rename_i fs hu
      simp only [Bool.and_eq_true, List.all_eq_true] at hs
      obtain ⟨xs, n, rfl, rfl, hcl, hxl, hx⟩ := DataW.trod_struct hu h
      have key : ∀ (j : Nat) (f : Field) (p : AV), fs.toList[j]? = some f → ((xs.map (·.1)).map ofD)[j]? = some p → Typed P maxLen f.type p ∧ p.cells.length = ((cs.drop f.offset).take (P.cellsOf f.type)).length ∧
          ∀ (i : Nat) (c : AV) (v : Value), p.cells[i]? = some c → ((cs.drop f.offset).take (P.cellsOf f.type))[i]? = some v → VR G c v := fun j f p hf hp => by
        rw [List.map_map, List.getElem?_map] at hp
        obtain ⟨y, hy, rfl⟩ := Option.map_eq_some_iff.1 hp
        have := hx j f (by simpa using hf)
        rw [hy] at this
        exact trod_VR hG hL n f.type _ y (hs.2 f (List.mem_of_getElem? hf)) this
      have hin : ∀ (fl : List Field) (o n : Nat), tiles P fl o n = true → ∀ f ∈ fl, f.offset + P.cellsOf f.type ≤ n ∧ o ≤ n := fun fl => by
        have hmono : ∀ (fl : List Field) (o n : Nat), tiles P fl o n = true → o ≤ n := fun fl => by
          induction fl with
          | nil => intro o n h; simp only [tiles] at h; have := Nat.eq_of_beq_eq_true h; omega
          | cons g r ih => intro o n h; simp only [tiles, Bool.and_eq_true] at h; have := ih _ _ h.2; omega
        induction fl with
        | nil => intro o n _ f hf; cases hf
        | cons g r ih =>
          intro o n h f hf
          simp only [tiles, Bool.and_eq_true] at h
          have h1 := Nat.eq_of_beq_eq_true h.1
          have h2 := hmono r _ _ h.2
          rcases List.mem_cons.1 hf with rfl | hf
          · omega
          · have := ih _ _ h.2 f hf; omega
      have hsf := struct_flat (P := P) (G := G) (cs := cs) fs.toList ((xs.map (·.1)).map ofD) 0 (P.cellsOf t) hs.1 (by simp [hxl]) fun j f p hf hp => by
        obtain ⟨_, k2, k3⟩ := key j f p hf hp
        have hle := (hin _ _ _ hs.1 f (List.mem_of_getElem? hf)).1
        refine ⟨by rw [k2]; simp; omega, fun i c v hc hv => k3 i c v hc ?_⟩
        have hi : i < P.cellsOf f.type := by
          have := (List.getElem?_eq_some_iff.1 hc).1
          rw [k2] at this; simp at this; omega
        rw [List.getElem?_take, if_pos hi, List.getElem?_drop]; exact hv
      rw [ofD, ofCs_flat]
      refine ⟨.struct hu (by simp [hxl]) (fun j f p hf hp => (key j f p (by simpa using hf) hp).1), ?_, fun j c v hc hv => ?_⟩
      · simp only [AV.cells]; rw [hcl]; have := hsf.1; omega
      · exact hsf.2 j c v hc (by simpa using hv)
    · rename_i n e hu
      simp only [Bool.and_eq_true] at hs
      have hsz := Nat.eq_of_beq_eq_true hs.2
      obtain ⟨xs, m, rfl, rfl, hcl, hxl, hx⟩ := DataW.trod_array hu h
      have key : ∀ (j : Nat) (p : AV), ((xs.map (·.1)).map ofD)[j]? = some p → Typed P maxLen e p ∧ p.cells.length = ((cs.drop (j * P.cellsOf e)).take (P.cellsOf e)).length ∧
          ∀ (i : Nat) (c : AV) (v : Value), p.cells[i]? = some c → ((cs.drop (j * P.cellsOf e)).take (P.cellsOf e))[i]? = some v → VR G c v := fun j p hp => by
        rw [List.map_map, List.getElem?_map] at hp
        obtain ⟨y, hy, rfl⟩ := Option.map_eq_some_iff.1 hp
        have hj : j < n := hxl ▸ (List.getElem?_eq_some_iff.1 hy).1
        have := hx j hj
        rw [hy] at this
        exact trod_VR hG hL m e _ y hs.1 this
      have hsf := array_flat (G := G) (cs := cs) (P.cellsOf e) ((xs.map (·.1)).map ofD) 0 fun j p hp => by
        obtain ⟨_, k2, k3⟩ := key j p hp
        have hj : j < n := by
          have := (List.getElem?_eq_some_iff.1 hp).1
          simp at this; omega
        have hle : j * P.cellsOf e + P.cellsOf e ≤ cs.length := by
          rw [hcl, hsz, ← Nat.succ_mul]; exact Nat.mul_le_mul_right _ hj
        refine ⟨by rw [k2]; simp; omega, fun i c v hc hv => k3 i c v hc ?_⟩
        have hi : i < P.cellsOf e := by
          have := (List.getElem?_eq_some_iff.1 hc).1
          rw [k2] at this; simp at this; omega
        rw [List.getElem?_take, if_pos hi, List.getElem?_drop]; simpa using hv
      rw [ofD, ofCs_flat]
      refine ⟨.array hu (by simp [hxl]) (fun p hp => ?_), ?_, fun j c v hc hv => ?_⟩
      · obtain ⟨j, hj⟩ := List.getElem?_of_mem hp
        exact (key j p hj).1
      · simp only [AV.cells]; rw [hsf.1, hcl, hsz]; simp [hxl]
      · exact hsf.2 j c v hc (by simpa using hv)
    · cases hs

def TypedAll (P : Program) (B : Nat) : List TypeId → List AV → Prop
  | [], [] => True
  | t :: ts, a :: r => Typed P B t a ∧ TypedAll P B ts r
  | _, _ => False

theorem TypedAll.length {B : Nat} : ∀ {ts : List TypeId} {l : List AV}, TypedAll P B ts l → ts.length = l.length
  | [], [], _ => rfl
  | [], _ :: _, h => h.elim
  | _ :: _, [], h => h.elim
  | _ :: _, _ :: _, h => by have := TypedAll.length h.2; simp [this]

theorem okWide_cells {W : World} {base : Nat} {t : TypeId} {v : Value} (ho : Value.okWide P W .any base t v) {d : DataW H} (hd : Typed P maxLen t (ofD d)) (hv : VRs G (ofD d).cells v.cells) : VR G (ofD d) v := by
  unfold Value.okWide at ho
  generalize hk : ofD d = k at hd hv ⊢
  cases hd with
  | struct hu h1 h2 =>
    rw [hu] at ho
    obtain ⟨cs, rfl, _⟩ := ho
    exact .agg hv.1 hv.2
  | array hu h1 h2 =>
    rw [hu] at ho
    obtain ⟨cs, rfl, _⟩ := ho
    exact .agg hv.1 hv.2
  | bool hu =>
    rw [hu] at ho
    simp only [Cell.okWide, hu, Cell.ok] at ho
    split at ho <;> first | contradiction | (have := hv.2 0 _ rfl; simpa [Value.cells] using this)
  | int hu =>
    rw [hu] at ho
    simp only [Cell.okWide, hu, Cell.ok] at ho
    split at ho <;> first | contradiction | (have := hv.2 0 _ rfl; simpa [Value.cells] using this)
  | str hu =>
    rw [hu] at ho
    simp only [Cell.okWide, hu, Cell.ok] at ho
    split at ho <;> first | contradiction | (have := hv.2 0 _ rfl; simpa [Value.cells] using this)
  | sl hu =>
    rw [hu] at ho
    simp only [Cell.okWide, hu, Cell.ok] at ho
    split at ho <;> first | contradiction | (have := hv.2 0 _ rfl; simpa [Value.cells] using this)

/-- The ghost at the start: all that there is stays. -/
def gh0 (w : World) : Gh := { w0 := w, ρ := fun _ => none, F := fun b o => w.cell? ⟨b, o, none⟩, ar := fun _ => none, lpD := fun _ => none, ds := fun _ => False }
theorem inv0 (w : World) : Inv (fun _ => none) (gh0 w) [] w where
  below := Below.refl _ _
  drw := Nat.le_refl _
  fix := fun _ _ _ e => e
  obj := fun i ob e => by simp at e
  domρ := fun i b e => by cases e
  domA := fun i r e => by cases e
  inj := fun i j b e => by cases e
  base := fun i b e => by cases e
  sep := fun i b o v _ e => by cases e
  arB := fun i r b c sz T e => by cases e
  arI := fun i j r r' b c sz T c' sz' T' e => by cases e
  lp := fun b D e => by cases e
  lpB := fun b D e => by cases e
  dsI := fun D e => e.elim
  glob := fun g cs e => by cases e

theorem trodAll_VR (hL : plainAll P L = true) : ∀ (ts : List TypeId) (vs : List Value) (ds : List (DataW H)) (ps : List MemPlace), (∀ t ∈ ts, L.contains t = true) → (∀ (j : Nat) t v, ts[j]? = some t → vs[j]? = some v → Value.okWide P w .any base t v) →
    DataW.TrodAll enc P w 0 (fun _ => true) true ts vs ds ps → TypedAll P maxLen ts (ds.map ofD) ∧ (ds.map ofD).length = vs.length ∧ ∀ (j : Nat) (c : AV) (v : Value), (ds.map ofD)[j]? = some c → vs[j]? = some v → VR (gh0 w) c v
  | [], [], [], _, _, _, _ => ⟨trivial, rfl, fun j c v h => by simp at h⟩
  | [], _ :: _, _, _, _, _, h => by simp [DataW.TrodAll] at h
  | [], [], _ :: _, _, _, _, h => by simp [DataW.TrodAll] at h
  | _ :: _, [], _, _, _, _, h => by simp [DataW.TrodAll] at h
  | _ :: _, _ :: _, [], _, _, _, h => by simp [DataW.TrodAll] at h
  | t :: ts, v :: vs, d :: ds, ps, ht, ho, h => by
    obtain ⟨p, q, ⟨fuel, h1⟩, h2, _⟩ := h
    obtain ⟨k1, k2, k3⟩ := trodAll_VR hL ts vs ds q (fun t h => ht t (List.mem_cons_of_mem _ h)) (fun j t v e e' => ho (j + 1) t v (by simpa using e) (by simpa using e')) h2
    have hc := ht t (List.mem_cons_self ..)
    obtain ⟨m1, m2, m3⟩ := trod_VR (G := gh0 w) (fun _ _ _ e => e) hL fuel t _ _ hc h1
    have hs : plainStep P L t = true := by
      have := hL
      simp only [plainAll, List.all_eq_true] at this
      exact this t (by simpa using hc)
    refine ⟨⟨m1, k1⟩, by simpa using k2, fun j c u e e' => ?_⟩
    cases j with
    | zero =>
      simp only [List.map_cons, List.getElem?_cons_zero, Option.some.injEq] at e e'
      subst e; subst e'
      exact okWide_cells (ho 0 t v rfl rfl) m1 (VRs.of_get (by rw [m2]; simp) fun j c u h h' => m3 j c u h (by simpa using h'))
    | succ j => exact k3 j c u (by simpa using e) (by simpa using e')

theorem below_trodAll (hl : laidOutB P = true) {w' : World} (hb : Below w.heap.size w w') : ∀ (ts : List TypeId) (vs : List Value) (ds : List (DataW H)) (ps : List MemPlace), (∀ t ∈ ts, P.readableRec t = true ∧ t < P.types.size) → (∀ x ∈ ps, x.block < w.heap.size) →
    DataW.TrodAll enc P w 0 (fun _ => true) true ts vs ds ps → DataW.TrodAll enc P w' 0 (fun b => decide (b < w.heap.size)) true ts vs ds ps
  | [], [], [], _, _, _, h => h
  | [], _ :: _, _, _, _, _, h => by simp [DataW.TrodAll] at h
  | [], [], _ :: _, _, _, _, h => by simp [DataW.TrodAll] at h
  | _ :: _, [], _, _, _, _, h => by simp [DataW.TrodAll] at h
  | _ :: _, _ :: _, [], _, _, _, h => by simp [DataW.TrodAll] at h
  | t :: ts, v :: vs, d :: ds, ps, hr, hlt, h => by
    obtain ⟨p, q, h1, h2, rfl⟩ := h
    exact ⟨p, q, Below.trod hl (hr t (List.mem_cons_self ..)).1 (hr t (List.mem_cons_self ..)).2 h1 hb (fun x hx => hlt x (List.mem_append_left _ hx)),
      below_trodAll hl hb ts vs ds q (fun t h => hr t (List.mem_cons_of_mem _ h)) (fun x hx => hlt x (List.mem_append_right _ hx)) h2, rfl⟩

/-- The closed facts of a law's row, for 'contract_of'. -/
def lawFacts (P : Program) (L : List TypeId) (fn : Func) : Bool :=
  laidOutB P && plainAll P L && (fn.params.toList.all fun t => L.contains t && P.readableRec t && decide (t < P.types.size)) &&
  match fn.resultTypes.toList with
  | [tb] => (match P.underlying tb with
    | some .bool => true
    | _ => false)
  | _ => false

/-! ### What a value of a type looks like -/
theorem Typed.int_inv {B : Nat} {t : TypeId} {k : IntKind} {v : AV} (hu : P.underlying t = some (.int k)) (h : Typed P B t v) : ∃ n, v = .int k n ∧ k.min ≤ n ∧ n ≤ k.max := by
  cases h with
  | int h h1 h2 => rw [hu] at h; cases h; exact ⟨_, rfl, h1, h2⟩
  | bool h => rw [hu] at h; cases h
  | str h => rw [hu] at h; cases h
  | sl h => rw [hu] at h; cases h
  | struct h => rw [hu] at h; cases h
  | array h => rw [hu] at h; cases h
theorem Typed.str_inv {B : Nat} {t : TypeId} {v : AV} (hu : P.underlying t = some .string) (h : Typed P B t v) : ∃ s : ByteArray, v = .str s ∧ s.size ≤ B := by
  cases h with
  | str h h1 => exact ⟨_, rfl, h1⟩
  | int h => rw [hu] at h; cases h
  | bool h => rw [hu] at h; cases h
  | sl h => rw [hu] at h; cases h
  | struct h => rw [hu] at h; cases h
  | array h => rw [hu] at h; cases h
theorem Typed.sl_inv {B : Nat} {t e : TypeId} {v : AV} (hu : P.underlying t = some (.slice e)) (h : Typed P B t v) : ∃ rows, v = .sl rows .free ∧ rows.length ≤ B ∧ ∀ r ∈ rows, Typed P B e r := by
  cases h with
  | sl h h1 h2 => rw [hu] at h; cases h; exact ⟨_, rfl, h1, h2⟩
  | int h => rw [hu] at h; cases h
  | bool h => rw [hu] at h; cases h
  | str h => rw [hu] at h; cases h
  | struct h => rw [hu] at h; cases h
  | array h => rw [hu] at h; cases h
theorem TypedAll.of_get {B : Nat} : ∀ {fs : List Field} {ps : List AV}, ps.length = fs.length → (∀ (j : Nat) (f : Field) (p : AV), fs[j]? = some f → ps[j]? = some p → Typed P B f.type p) → TypedAll P B (fs.map (·.type)) ps
  | [], [], _, _ => trivial
  | [], _ :: _, h, _ => by simp at h
  | _ :: _, [], h, _ => by simp at h
  | f :: fs, p :: ps, h, H => ⟨H 0 f p rfl rfl, TypedAll.of_get (by simpa using h) fun j f p e e' => H (j + 1) f p (by simpa using e) (by simpa using e')⟩
theorem Typed.struct_inv {B : Nat} {t : TypeId} {fs : Array Field} {v : AV} (hu : P.underlying t = some (.struct fs)) (h : Typed P B t v) : ∃ ps, v = .agg (ps.flatMap AV.cells) ∧ TypedAll P B (fs.toList.map (·.type)) ps := by
  cases h with
  | struct h h1 h2 => rw [hu] at h; cases h; exact ⟨_, rfl, .of_get (by simpa using h1) fun j f p e e' => h2 j f p (by simpa using e) e'⟩
  | int h => rw [hu] at h; cases h
  | bool h => rw [hu] at h; cases h
  | str h => rw [hu] at h; cases h
  | sl h => rw [hu] at h; cases h
  | array h => rw [hu] at h; cases h
theorem TypedAll.cons_inv {B : Nat} {t : TypeId} {ts : List TypeId} {l : List AV} (h : TypedAll P B (t :: ts) l) : ∃ a r, l = a :: r ∧ Typed P B t a ∧ TypedAll P B ts r := by
  cases l with
  | nil => exact h.elim
  | cons a r => exact ⟨a, r, rfl, h.1, h.2⟩
theorem TypedAll.nil_inv {B : Nat} {l : List AV} (h : TypedAll P B [] l) : l = [] := by
  cases l with
  | nil => rfl
  | cons a r => exact h.elim
theorem list_of {α : Type} {enc : α → AV} {Q : α → Prop} : ∀ {rows : List AV}, (∀ r ∈ rows, ∃ x, r = enc x ∧ Q x) → ∃ l : List α, rows = l.map enc ∧ ∀ x ∈ l, Q x
  | [], _ => ⟨[], rfl, by simp⟩
  | r :: rows, h => by
    obtain ⟨x, rfl, hx⟩ := h r (List.mem_cons_self ..)
    obtain ⟨l, rfl, hl⟩ := list_of (rows := rows) fun r hr => h r (List.mem_cons_of_mem _ hr)
    exact ⟨x :: l, rfl, fun y hy => by
      rcases List.mem_cons.1 hy with rfl | hy
      · exact hx
      · exact hl y hy⟩
end
end Go.Abs
