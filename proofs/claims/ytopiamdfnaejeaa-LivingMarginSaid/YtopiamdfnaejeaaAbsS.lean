/- Arrays of one's own that nobody writes any more become lists. It says nothing of any program; no conditions. -/
import Derived.Test.YtopiamdfnaejeaaAbsR
set_option linter.unusedSimpArgs false
set_option linter.unusedVariables false
namespace Go.Abs
open Go Go.RowKit

/-- Cells as elements. -/
def rowsOf (sz : Nat) : Nat → List AV → List AV
  | 0, _ => []
  | k + 1, l => (if sz = 1 then l.headD .top else .agg (l.take sz)) :: rowsOf sz k (l.drop sz)
def fzOK (cs : List AV) (off len cap sz : Nat) : Bool := decide (off + len * sz ≤ cs.length) && decide (len ≤ cap) && (sz != 0) && cs.all fun c => !c.isAgg
mutual
/-- A value, an array of one's own being a list from now on. -/
def fzV (i : Nat) (cs : List AV) : AV → AV
  | .ms i' off len cap sz => if i' = i ∧ fzOK cs off len cap sz = true then .sl (rowsOf sz len (cs.drop off)) .free else .ms i' off len cap sz
  | .agg l => .agg (fzL i cs l)
  | .tuple l => .tuple (fzL i cs l)
  | .sl rows own => .sl (fzL i cs rows) own
  | .top => .top
  | .int k n => .int k n
  | .bool b => .bool b
  | .str s => .str s
  | .ptr none => .ptr none
  | .ptr (some (i', o)) => if i' = i then .eptr (cs.drop o) else .ptr (some (i', o))
  | .eptr l => .eptr l
  | .map r => .map r
  | .func f a b => .func f (fzL i cs a) (fzL i cs b)
  | .yield l => .yield l
  | .nilFunc => .nilFunc
  | .iface t v => .iface t v
  | .nilIface => .nilIface
def fzL (i : Nat) (cs : List AV) : List AV → List AV
  | [] => []
  | a :: l => fzV i cs a :: fzL i cs l
end
theorem fzL_map (i : Nat) (cs l : List AV) : fzL i cs l = l.map (fzV i cs) := by
  induction l with
  | nil => rfl
  | cons a l ih => simp [fzL, ih]
theorem rowsOf_length (sz : Nat) : ∀ (k : Nat) (l : List AV), (rowsOf sz k l).length = k
  | 0, _ => rfl
  | k + 1, l => by simp [rowsOf, rowsOf_length sz k]
theorem isAgg_cells {c : AV} (h : c.isAgg = false) : c.cells = [c] := by cases c <;> first | rfl | simp [AV.isAgg] at h
theorem rowsOf_cells {sz : Nat} (hs : sz ≠ 0) : ∀ (k : Nat) (l : List AV), k * sz ≤ l.length → (∀ c ∈ l, c.isAgg = false) → ∀ (j : Nat) (r : AV), (rowsOf sz k l)[j]? = some r → r.cells = (l.drop (j * sz)).take sz
  | 0, l, _, _, j, r, e => by simp [rowsOf] at e
  | k + 1, l, hl, hc, j, r, e => by
    rw [Nat.succ_mul] at hl
    cases j with
    | zero =>
      simp only [rowsOf, List.getElem?_cons_zero, Option.some.injEq] at e
      subst e
      rw [Nat.zero_mul, List.drop_zero]
      split
      · rename_i h1; subst h1
        cases l with
        | nil => simp at hl
        | cons a l => simpa using isAgg_cells (hc a (by simp))
      · rfl
    | succ j =>
      simp only [rowsOf, List.getElem?_cons_succ] at e
      rw [rowsOf_cells hs k (l.drop sz) (by rw [List.length_drop]; omega) (fun c hc' => hc c (List.mem_of_mem_drop hc')) j r e, List.drop_drop]
      congr 2
      rw [Nat.succ_mul]; omega
theorem rowsOf_one : ∀ (k : Nat) (l : List AV), k ≤ l.length → rowsOf 1 k l = l.take k
  | 0, l, _ => by simp [rowsOf]
  | k + 1, [], h => by simp at h
  | k + 1, a :: l, h => by simp [rowsOf, rowsOf_one k l (by simpa using h)]

section
variable {P : Program} {Γ : Nat → Option (List AV)} {G : Gh} {h : AH} {w : World} {N : Nat} {σ : Tm} {Q : Exit → Tm → AH → Prop}

theorem fz_le (hI : Inv Γ G h w) {i b : Nat} {cs : List AV} {T : TypeId} (hi : h[i]? = some (.row cs T)) (hb : G.ρ i = some b) (vals : Array Value) : G.le (G.fixed b vals) :=
  ⟨rfl, fun _ _ e => e, fun c o v e => by
    simp only [Gh.fixed]
    rw [if_neg (fun e' => by subst e'; exact hI.sep i c o v (by rw [hi]; simp) hb e)]; exact e, fun _ r e => ⟨r, e, Nat.le_refl _, fun _ => rfl⟩, fun _ _ e => e, fun _ e => e, fun b _ e _ => ⟨b, e⟩⟩

theorem fz_VR {i b : Nat} {cs : List AV} {vals : Array Value} (hle : G.le (G.fixed b vals)) (hb : G.ρ i = some b) (hv : VRs G cs vals) {a : AV} {v : Value} (h : VR G a v) : VR (G.fixed b vals) (fzV i cs a) v := by
  induction h with
  | top v => exact .top v
  | int k n => exact .int k n
  | bool b => exact .bool b
  | str s => exact .str s
  | ptrNil => exact .ptrNil
  | @ptr i' b' o h0 =>
    rw [fzV]
    split
    · rename_i hc
      subst hc
      rw [hb] at h0; cases h0
      have hat : ∀ (k : Nat) (c : AV), (cs.drop o)[k]? = some c → cs[o + k]? = some c := fun k c e => by rwa [List.getElem?_drop] at e
      refine .eptr (fun k => vals.getD (o + k) undef) (fun k c e => ?_) (fun k c e => ?_)
      · obtain ⟨u, q1, _⟩ := hv.get (hat k c e)
        simp only [Gh.fixed, if_true, Array.getD_eq_getD_getElem?, q1, Option.getD_some]
      · obtain ⟨u, q1, q2⟩ := hv.get (hat k c e)
        simp only [Array.getD_eq_getD_getElem?, q1, Option.getD_some]
        exact q2.mono hle
    · exact .ptr (hle.ρ _ _ h0)
  | eptr ws hF hv' _ => exact (VR.eptr ws hF hv').mono hle
  | @sl rows own a cap sz ws hcap hnil hsz hF hv' hown ih =>
    have hg : ∀ (k : Nat) (r : AV), (fzL i cs rows)[k]? = some r → ∃ r0, rows[k]? = some r0 ∧ r = fzV i cs r0 := fun k r e => by
      rw [fzL_map, List.getElem?_map] at e
      obtain ⟨r0, h0, rfl⟩ := Option.map_eq_some_iff.1 e
      exact ⟨r0, h0, rfl⟩
    have hcells : ∀ r0 : AV, (fzV i cs r0).cells = r0.cells.map (fzV i cs) := fun r0 => by
      cases r0 <;> first
        | rfl
        | (simp [fzV, AV.cells, fzL_map]; done)
        | skip
      · rename_i q
        rcases q with _ | ⟨i', o⟩
        · rfl
        · have e1 : (AV.ptr (some (i', o))).cells = [.ptr (some (i', o))] := rfl
          rw [e1, List.map_cons, List.map_nil, fzV]
          by_cases hc : i' = i
          · rw [if_pos hc]; rfl
          · rw [if_neg hc]; rfl
      · rename_i i' off len cap sz
        have e1 : (AV.ms i' off len cap sz).cells = [.ms i' off len cap sz] := rfl
        rw [e1, List.map_cons, List.map_nil, fzV]
        by_cases hc : i' = i ∧ fzOK cs off len cap sz = true
        · rw [if_pos hc]; rfl
        · rw [if_neg hc]; rfl
    have hl : (fzL i cs rows).length = rows.length := by rw [fzL_map]; simp
    rw [fzV, ← hl]
    refine VR.sl (sz := sz) ws (by rw [hl]; exact hcap) hnil (fun k r e => ?_) (fun k r j c e e' => ?_) (fun k r j c e e' => ?_) ?_
    · obtain ⟨r0, h0, rfl⟩ := hg k r e
      rw [hcells, List.length_map]; exact hsz k r0 h0
    · obtain ⟨r0, h0, rfl⟩ := hg k r e
      rw [hcells, List.getElem?_map] at e'
      obtain ⟨c0, h1, rfl⟩ := Option.map_eq_some_iff.1 e'
      obtain ⟨b', o, q1, q2⟩ := hF k r0 j c0 h0 h1
      exact ⟨b', o, q1, hle.F _ _ _ q2⟩
    · obtain ⟨r0, h0, rfl⟩ := hg k r e
      rw [hcells, List.getElem?_map] at e'
      obtain ⟨c0, h1, rfl⟩ := Option.map_eq_some_iff.1 e'
      exact ih k r0 j c0 h0 h1
    · have := hown.mono hle
      cases own with
      | free => trivial
      | full => show cap = (fzL i cs rows).length; rw [hl]; exact this
      | arena j =>
        obtain ⟨r, k1, k2, k3⟩ := this
        refine ⟨r, k1, by rw [hl]; exact k2, fun e => ?_⟩
        have := k3 (by rw [← hl]; exact e)
        cases hbk : r.blk with
        | none => rw [hbk] at this; exact this
        | some bb =>
          obtain ⟨b1, c1, s1, T1⟩ := bb
          rw [hbk] at this
          exact ⟨this.1, this.2.1, fun hne => this.2.2 (fun e0 => hne (by rw [e0]; rfl))⟩
  | @ms i' b' off len cap sz h0 =>
    rw [fzV]
    split
    · rename_i hc
      obtain ⟨rfl, hok⟩ := hc
      rw [hb] at h0; cases h0
      simp only [fzOK, Bool.and_eq_true, decide_eq_true_eq, bne_iff_ne, List.all_eq_true, Bool.not_eq_true'] at hok
      obtain ⟨⟨⟨h1, h2⟩, h3⟩, h4⟩ := hok
      have hlen := rowsOf_length sz len (cs.drop off)
      have hcs := rowsOf_cells h3 len (cs.drop off) (by rw [List.length_drop]; omega) (fun c hc => h4 c (List.mem_of_mem_drop hc))
      have hat : ∀ (k : Nat) (r : AV) (j : Nat) (c : AV), (rowsOf sz len (cs.drop off))[k]? = some r → r.cells[j]? = some c → cs[off + k * sz + j]? = some c := fun k r j c e e' => by
        rw [hcs k r e, List.getElem?_take] at e'
        split at e'
        · rw [List.getElem?_drop, List.getElem?_drop] at e'
          rw [← e']; congr 1; omega
        · cases e'
      have key := VR.sl (G := G.fixed b vals) (rows := rowsOf sz len (cs.drop off)) (own := .free) (a := some ⟨b, off, none⟩) (cap := cap) (sz := sz) (fun k j => vals.getD (off + k * sz + j) undef) (by rw [hlen]; exact h2) (fun e => by cases e) (fun k r e => by
          have hk : k < len := by have := (List.getElem?_eq_some_iff.1 e).1; rwa [hlen] at this
          rw [hcs k r e, List.length_take, List.length_drop, List.length_drop]
          have : (k + 1) * sz ≤ len * sz := Nat.mul_le_mul_right _ hk
          rw [Nat.succ_mul] at this
          omega) (fun k r j c e e' => by
          refine ⟨b, off, rfl, ?_⟩
          obtain ⟨u, q1, _⟩ := hv.get (hat k r j c e e')
          simp only [Gh.fixed, if_true, Array.getD_eq_getD_getElem?, q1, Option.getD_some]) (fun k r j c e e' => by
          obtain ⟨u, q1, q2⟩ := hv.get (hat k r j c e e')
          simp only [Array.getD_eq_getD_getElem?, q1, Option.getD_some]
          exact q2.mono hle) trivial
      rw [hlen] at key
      exact key
    · exact .ms h0
  | mapNil => exact .mapNil
  | map h => exact .map h
  | func hf hc h1 h2 ih1 ih2 =>
    refine .func (by rw [fzL_map]; simpa using hf) (by rw [fzL_map]; simpa using hc) (fun j c e => ?_) (fun j c e => ?_)
    · rw [fzL_map, List.getElem?_map] at e
      obtain ⟨c0, h0, rfl⟩ := Option.map_eq_some_iff.1 e
      exact ih1 j c0 h0
    · rw [fzL_map, List.getElem?_map] at e
      obtain ⟨c0, h0, rfl⟩ := Option.map_eq_some_iff.1 e
      exact ih2 j c0 h0
  | yield h => exact .yield h
  | nilFunc => exact .nilFunc
  | iface t h _ => exact (VR.iface t h).mono hle
  | nilIface => exact .nilIface
  | agg hl _ ih =>
    refine .agg (by rw [fzL_map]; simpa using hl) fun j c e => ?_
    rw [fzL_map, List.getElem?_map] at e
    obtain ⟨c0, h0, rfl⟩ := Option.map_eq_some_iff.1 e
    exact ih j c0 h0
  | tuple hl _ ih =>
    refine .tuple (by rw [fzL_map]; simpa using hl) fun j c e => ?_
    rw [fzL_map, List.getElem?_map] at e
    obtain ⟨c0, h0, rfl⟩ := Option.map_eq_some_iff.1 e
    exact ih j c0 h0

def Froze (i : Nat) (cs : List AV) (h h' : AH) : Prop := h'.length = h.length ∧ ∀ (j : Nat) (ob : AObj), h'[j]? = some ob → (j = i ∧ ob = .frozen) ∨ (j ≠ i ∧ (h[j]? = some ob ∨ ∃ c0 T, h[j]? = some (.row c0 T) ∧ ob = .row (fzL i cs c0) T))
theorem Inv.freeze (hI : Inv Γ G h w) {i : Nat} {cs : List AV} {T : TypeId} (hi : h[i]? = some (.row cs T)) {h' : AH} (hf : Froze i cs h h') :
    ∃ b vals, G.le (G.fixed b vals) ∧ Inv Γ (G.fixed b vals) h' w ∧ ∀ a v, VR G a v → VR (G.fixed b vals) (fzV i cs a) v := by
  obtain ⟨b, vals, h1, h2, h3⟩ := hI.row hi
  have hle := fz_le hI hi h1 vals
  have hV := fun a v (hv : VR G a v) => fz_VR (i := i) hle h1 h3 hv
  refine ⟨b, vals, hle, ?_, hV⟩
  have hF : ∀ c o v, (G.fixed b vals).F c o = some v → (c = b ∧ vals[o]? = some v) ∨ (c ≠ b ∧ G.F c o = some v) := fun c o v e => by
    simp only [Gh.fixed] at e
    split at e
    · rename_i hc; exact .inl ⟨hc, e⟩
    · rename_i hc; exact .inr ⟨hc, e⟩
  exact {
    below := hI.below
    fix := fun c o v e => by
      rcases hF c o v e with ⟨rfl, hv⟩ | ⟨_, hv⟩
      · rw [cell_of h2]; exact hv
      · exact hI.fix c o v hv
    obj := fun j ob e => by
      rcases hf.2 j ob e with ⟨_, rfl⟩ | ⟨_, e1 | ⟨c0, T0, e1, rfl⟩⟩
      · trivial
      · exact (hI.obj j ob e1).mono hle (fun _ _ => rfl) (fun _ h => h) (fun h => h)
      · obtain ⟨b0, v0, k1, k2, k3⟩ := hI.row e1
        refine ⟨b0, v0, k1, k2, by rw [fzL_map]; simpa using k3.1, fun q c e => ?_⟩
        rw [fzL_map, List.getElem?_map] at e
        obtain ⟨c1, q1, rfl⟩ := Option.map_eq_some_iff.1 e
        exact hV _ _ (k3.2 q c1 q1)
    domρ := fun j c e => by rw [hf.1]; exact hI.domρ j c e
    domA := fun j r e => by rw [hf.1]; exact hI.domA j r e
    inj := hI.inj
    base := hI.base
    sep := fun j c o v hz e e' => by
      have hjl : j < h'.length := by rw [hf.1]; exact hI.domρ j c e
      have ej : h'[j]? = some h'[j] := List.getElem?_eq_getElem hjl
      rcases hf.2 j _ ej with ⟨_, e1⟩ | ⟨hji, e1⟩
      · exact hz (ej.trans (by rw [e1]))
      · rcases hF c o v e' with ⟨rfl, _⟩ | ⟨_, hv⟩
        · exact hji (hI.inj j i c e h1)
        · refine hI.sep j c o v (fun e2 => ?_) e hv
          rcases e1 with e1 | ⟨c0, T0, e1, _⟩
          · rw [e2] at e1; exact hz (ej.trans e1.symm)
          · rw [e2] at e1; cases e1
    arB := fun j r c k sz T' e e' => (hI.arB j r c k sz T' e e').mono (G' := G.fixed b vals) rfl rfl (fun o v hv => by
      rcases hF c o v hv with ⟨rfl, _⟩ | ⟨_, hv⟩
      · exact absurd h1 ((hI.arB j r c k sz T' e e').ρ i)
      · exact hv) (fun _ h => h)
    arI := hI.arI
    lp := hI.lp
    lpB := hI.lpB
    dsI := hI.dsI
    glob := fun g c e => (hI.glob g c e).mono hle }

/-- **A contract that leaves an array of one's own**, which is a list from now on. -/
theorem ACalls.freeze {f : FuncId} {args : List AV} {R : AV → AH → Prop} (H : ACalls P Γ f args h fun v h' => ∃ i cs T h3, h'[i]? = some (.row cs T) ∧ Froze i cs h' h3 ∧ R (fzV i cs v) h3) : ACalls P Γ f args h R :=
  ⟨H.1, fun G w vs hI hv => (H.2 G w vs hI hv).mono fun e w' hr => by
    obtain ⟨v, G', av, h', h1, h2, h3, h4, i, cs, T, hh, k1, k2, k3⟩ := hr
    obtain ⟨b, vals, q1, q2, q3⟩ := h3.freeze k1 k2
    exact ⟨v, _, _, hh, h1, h2.trans q1, q2, q3 _ _ h4, k3⟩⟩
/-- **An array of one's own is a list from now on.** -/
theorem AWP.freeze {c : Code} {i : Nat} {cs : List AV} {T : TypeId} {h' : AH} (hi : h[i]? = some (.row cs T)) (hf : Froze i cs h h') (H : AWP P Γ N c Q (σ.map fun p => (p.1, fzV i cs p.2)) h') : AWP P Γ N c Q σ h := fun r G w a hr hI ht => by
  obtain ⟨b, vals, q1, q2, q3⟩ := hI.freeze hi hf
  have hl : ∀ (σ : Tm) (j : Nat), lk (σ.map fun p => (p.1, fzV i cs p.2)) j = fzV i cs (lk σ j) := fun σ j => by
    induction σ with
    | nil => rfl
    | cons p σ ih =>
      obtain ⟨q, v⟩ := p
      simp only [List.map_cons, lk]
      split
      · rfl
      · exact ih
  refine wpIn_mono (H r _ w a (fun l e => by obtain ⟨D, hD⟩ := hr l e; exact ⟨D, hD⟩) q2 ⟨ht.1, fun j => by rw [hl]; exact q3 _ _ (ht.2 j)⟩) fun e a' w' hp => ?_
  obtain ⟨G2, σ2, h2, Ds, k1, k2, k3, k4, k5, k6, k7⟩ := hp
  exact ⟨G2, σ2, h2, Ds, q1.trans k1, k2, k3, k4, k5, k6, k7⟩
theorem Froze.set {i : Nat} {cs : List AV} {T : TypeId} (hi : h[i]? = some (.row cs T)) : Froze i cs h (h.set i .frozen) := by
  refine ⟨by simp, fun j ob e => ?_⟩
  rw [List.getElem?_set] at e
  split at e
  · rename_i hj
    subst hj
    split at e
    · cases e; exact .inl ⟨rfl, rfl⟩
    · cases e
  · rename_i hj
    exact .inr ⟨fun e' => hj e'.symm, .inl e⟩
theorem Froze.row {i j : Nat} {cs c0 : List AV} {T0 : TypeId} {h' : AH} (hf : Froze i cs h h') (hj : j ≠ i) (e : h[j]? = some (.row c0 T0)) : Froze i cs h (h'.set j (.row (fzL i cs c0) T0)) := by
  refine ⟨by simp [hf.1], fun k ob ek => ?_⟩
  rw [List.getElem?_set] at ek
  split at ek
  · rename_i hk
    subst hk
    split at ek
    · cases ek; exact .inr ⟨hj, .inr ⟨c0, T0, e, rfl⟩⟩
    · cases ek
  · exact hf.2 k ob ek

/-- The mark: arrays that are made from here on are of one's own. -/
theorem AWP.mark {c : Code} (hN : N ≤ 1000000) (H : AWP P Γ N c Q ((1000000, .tuple []) :: σ) h) : AWP P Γ N c Q σ h := fun r G w a hr hI ht =>
  H r G w a hr hI ⟨ht.1, fun j => by
    simp only [lk]
    split
    · rename_i hj
      subst hj
      have : a.tmps.getD 1000000 undef = undef := by
        rw [Array.getD_eq_getD_getElem?, Array.getElem?_eq_none (by rw [ht.1]; exact hN)]; rfl
      rw [this]
      exact VR.undef G
    · exact ht.2 j⟩
end
end Go.Abs
