/- Regions that draw their order of evaluation: whatever the order, what they leave is the same. It says nothing of any program; no conditions. -/
import Derived.Test.YtopiamdfnaejeaaAbsK
set_option linter.unusedSimpArgs false
set_option linter.unusedVariables false
namespace Go.Abs
open Go Go.RowKit

def foldB (b : Array Nat) (after : Array Edge) : Nat := after.toList.foldl (fun s e => if Region.binds .any e then s ||| 2 ^ e.on ||| b.getD e.on 0 else s) 0

/-- What is looked at ahead of a region that draws its order: who comes behind whom is closed; who has no order does not meddle with the other's names. -/
def drawOK (ops : Array Oper) : Bool :=
  let b := Region.before ops
  let ol := ops.toList
  ol.zipIdx.all fun p => b.getD p.2 0 == foldB b p.1.after && (p.1.after.toList.all fun e => !Region.binds .any e || Nat.blt e.on p.2) &&
    (ol.take p.2).zipIdx.all fun q => (b.getD p.2 0).testBit q.2 || apart1 ol p.1 q.1

theorem foldB_aux (b : Array Nat) (j : Nat) : ∀ (l : List Edge) (s : Nat), (l.foldl (fun s e => if Region.binds .any e then s ||| 2 ^ e.on ||| b.getD e.on 0 else s) s).testBit j = true →
    s.testBit j = true ∨ ∃ e ∈ l, Region.binds .any e = true ∧ (e.on = j ∨ (b.getD e.on 0).testBit j = true)
  | [], s, H => .inl H
  | e :: l, s, H => by
    rw [List.foldl_cons] at H
    rcases foldB_aux b j l _ H with h1 | ⟨e', k1, k2⟩
    · split at h1
      · rename_i hb
        rw [Nat.testBit_or, Nat.testBit_or, Bool.or_eq_true, Bool.or_eq_true, Nat.testBit_two_pow] at h1
        rcases h1 with (h1 | h1) | h1
        · exact .inl h1
        · exact .inr ⟨e, List.mem_cons_self .., hb, .inl (by simpa using h1)⟩
        · exact .inr ⟨e, List.mem_cons_self .., hb, .inr h1⟩
      · exact .inl h1
    · exact .inr ⟨e', List.mem_cons_of_mem _ k1, k2⟩

section
variable {P : Program} {Γ : Nat → Option (List AV)} {G : Gh} {h : AH} {w : World} {N : Nat} {σ σ' : Tm} {Q : Exit → Tm → AH → Prop} {ops : Array Oper}

theorem drawOK_at (hd : drawOK ops = true) {i : Nat} {o : Oper} (ho : ops[i]? = some o) :
    (Region.before ops).getD i 0 = foldB (Region.before ops) o.after ∧ (∀ e ∈ o.after, Region.binds .any e = true → e.on < i) ∧
    ∀ (j : Nat) (x : Oper), j < i → ops[j]? = some x → ((Region.before ops).getD i 0).testBit j = false → apart1 ops.toList o x = true := by
  unfold drawOK at hd
  have hmem : (o, i) ∈ ops.toList.zipIdx := by
    rw [List.mem_zipIdx_iff_getElem?]; simpa using ho
  have h1 := List.all_eq_true.1 hd _ hmem
  simp only [Bool.and_eq_true, beq_iff_eq] at h1
  obtain ⟨⟨h1, h2⟩, h3⟩ := h1
  refine ⟨h1, fun e he hb => ?_, fun j x hj hx hn => ?_⟩
  · have := List.all_eq_true.1 h2 e (by simpa using he)
    simp only [hb, Bool.not_true, Bool.false_or] at this
    exact Nat.le_of_ble_eq_true this
  · have hm : (x, j) ∈ (ops.toList.take i).zipIdx := by
      rw [List.mem_zipIdx_iff_getElem?, List.getElem?_take, if_pos hj]; simpa using hx
    have := List.all_eq_true.1 h3 _ hm
    simp only [hn, Bool.false_or] at this
    exact this

/-- What is still to be done. -/
def rem (ops : Array Oper) (listed : Array Bool) : List Nat := (List.range ops.size).filter fun i => !listed.getD i true

theorem mem_rem {listed : Array Bool} {i : Nat} : i ∈ rem ops listed ↔ i < ops.size ∧ listed.getD i true = false := by
  unfold rem; rw [List.mem_filter, List.mem_range]; simp

theorem rem_lt (listed : Array Bool) : (rem ops listed).Pairwise (· < ·) := List.Pairwise.filter _ List.pairwise_lt_range

theorem getD_set_self {listed : Array Bool} {i : Nat} (hi : i < listed.size) (d : Bool) : (listed.setIfInBounds i true).getD i d = true := by
  simp [Array.getD_eq_getD_getElem?, hi]
theorem getD_set_other {listed : Array Bool} {i j : Nat} (hij : i ≠ j) (d : Bool) : (listed.setIfInBounds i true).getD j d = listed.getD j d := by
  simp [Array.getD_eq_getD_getElem?, hij]

theorem rem_set {listed : Array Bool} {i : Nat} (hs : listed.size = ops.size) (hi : i ∈ rem ops listed) : ∃ L1 L2, rem ops listed = L1 ++ i :: L2 ∧ rem ops (listed.setIfInBounds i true) = L1 ++ L2 ∧ ∀ j ∈ L1, j < i ∧ listed.getD j true = false := by
  obtain ⟨L1, L2, e⟩ := List.append_of_mem hi
  have hp := rem_lt (ops := ops) listed
  rw [e] at hp
  have hp' := List.pairwise_append.1 hp
  have h1 : ∀ j ∈ L1, j < i := fun j hj => hp'.2.2 j hj i (List.mem_cons_self ..)
  have h2 : ∀ j ∈ L2, i < j := (List.pairwise_cons.1 hp'.2.1).1
  refine ⟨L1, L2, e, ?_, fun j hj => ⟨h1 j hj, (mem_rem.1 (e ▸ List.mem_append_left _ hj)).2⟩⟩
  have hil : i < listed.size := by rw [hs]; exact (mem_rem.1 hi).1
  have h3 : rem ops (listed.setIfInBounds i true) = (rem ops listed).filter fun j => decide (j ≠ i) := by
    unfold rem
    rw [List.filter_filter]
    refine List.filter_congr fun j _ => ?_
    by_cases hj : j = i
    · subst hj; rw [getD_set_self hil]; simp
    · rw [getD_set_other (fun e => hj e.symm)]; simp [hj]
  rw [h3, e, List.filter_append, List.filter_cons_of_neg (by simp), List.filter_eq_self.2 fun j hj => by have := h1 j hj; simp; omega, List.filter_eq_self.2 fun j hj => by have := h2 j hj; simp; omega]

def ClosedL (ops : Array Oper) (listed : Array Bool) : Prop := ∀ i, i < ops.size → listed.getD i true = true → ∀ j, j < ops.size → ((Region.before ops).getD i 0).testBit j = true → listed.getD j true = true

theorem getD_ff {listed : Array Bool} {i : Nat} (hi : i < listed.size) : listed.getD i false = listed.getD i true := by
  simp [Array.getD_eq_getD_getElem?, Array.getElem?_eq_getElem hi]

/-- **A new own object at a place that nobody has yet.** -/
theorem Inv.allocAt (hI : Inv Γ G h w) (o : Obj) (ob : AObj) {k : Nat} (hk : isHole h[k]?) (hob : ObjR (G.add k w.heap.size) (w.alloc o) k ob) :
    G.le (G.add k w.heap.size) ∧ Inv Γ (G.add k w.heap.size) (putAt h k ob) (w.alloc o) := by
  have hno : G.ρ k = none := by
    rcases hk with hk | hk
    · cases hc : G.ρ k with
      | none => rfl
      | some b => have := hI.domρ k b hc; rw [List.getElem?_eq_none_iff] at hk; omega
    · exact (hI.obj k _ hk).1
  have hle : G.le (G.add k w.heap.size) :=
    ⟨rfl, fun i c e => by simp only [Gh.add]; rw [if_neg (fun e' => by subst e'; rw [hno] at e; cases e)]; exact e, fun _ _ _ e => e, fun _ r e => ⟨r, e, Nat.le_refl _, fun _ => rfl⟩, fun _ _ e => e, fun _ e => e, fun b _ e _ => ⟨b, e⟩⟩
  refine ⟨hle, ?_⟩
  have hI' := hI.alloc_any o
  have hlen : (putAt h k ob).length = max h.length (k + 1) := by unfold putAt; simp; omega
  have hρ : ∀ i b, (G.add k w.heap.size).ρ i = some b → (i = k ∧ b = w.heap.size) ∨ (i ≠ k ∧ G.ρ i = some b) := fun i b e => by
    simp only [Gh.add] at e
    split at e
    · rename_i hi; cases e; exact .inl ⟨hi, rfl⟩
    · rename_i hi; exact .inr ⟨hi, e⟩
  have hρn : ∀ i, i ≠ k → (G.add k w.heap.size).ρ i = G.ρ i := fun i e => by simp only [Gh.add]; rw [if_neg e]
  exact {
    below := hI'.below
    fix := hI'.fix
    obj := fun i ob' e => by
      rw [putAt_get] at e
      split at e
      · rename_i hi; subst hi; cases e; exact hob
      · rename_i hi
        split at e
        · exact (hI'.obj i ob' e).mono hle (fun _ _ => rfl) (fun _ h => h) (fun h => ⟨(hρn i hi).trans h.1, h.2⟩)
        · rename_i hlt
          split at e
          · cases e
            refine ⟨(hρn i hi).trans ?_, ?_⟩
            · cases hc : G.ρ i with
              | none => rfl
              | some b => have := hI.domρ i b hc; omega
            · show G.ar i = none
              cases hc : G.ar i with
              | none => rfl
              | some b => have := hI.domA i b hc; omega
          · cases e
    domρ := fun i b e => by
      rw [hlen]
      rcases hρ i b e with ⟨h1, _⟩ | ⟨_, h2⟩
      · omega
      · have := hI.domρ i b h2; omega
    domA := fun i r e => by have := hI.domA i r e; rw [hlen]; omega
    inj := fun i j b e e' => by
      rcases hρ i b e with ⟨h1, h2⟩ | ⟨h1, h2⟩ <;> rcases hρ j b e' with ⟨k1, k2⟩ | ⟨k1, k2⟩
      · omega
      · have := (hI.base j b k2).2; omega
      · have := (hI.base i b h2).2; omega
      · exact hI.inj i j b h2 k2
    base := fun i b e => by
      rcases hρ i b e with ⟨h1, h2⟩ | ⟨h1, h2⟩
      · subst h2; exact ⟨hI.below.size, by simp⟩
      · have := hI.base i b h2; exact ⟨this.1, by simp; omega⟩
    sep := fun i b o v hf e e' => by
      rcases hρ i b e with ⟨h1, h2⟩ | ⟨h1, h2⟩
      · have := hI.F_lt (show G.F b o = some v from e'); omega
      · exact hI.sep i b o v (fun e'' => hf (by rw [putAt_get, if_neg h1, if_pos (hI.domρ i b h2)]; exact e'')) h2 e'
    arB := fun i r b c sz T e e' => (hI'.arB i r b c sz T e e').mono (G' := G.add k w.heap.size) rfl rfl (fun _ _ h => h) (fun j ej => by
      rcases hρ j b ej with ⟨_, h2⟩ | ⟨_, h2⟩
      · have := hI.ar_lt (show G.ar i = some r from e) e'; omega
      · exact h2)
    arI := hI'.arI
    lp := hI'.lp
    lpB := hI'.lpB
    dsI := hI'.dsI
    glob := fun g cs e => (hI'.glob g cs e).mono hle }

theorem AlStep.ok {m : Nat} {o : Oper} {v : AV} {h' : AH} (hI : Inv Γ G h w) {a : Act} (ht : TR N G σ a.tmps) (hi : al o.op = true) (H : AlStep P Γ m h o σ v h') {r : Option Nat} {next : Act → World → Prop} {Q' : Exit → Act → World → Prop}
    (hn : ∀ u G' w', G.le G' → Inv Γ G' h' w' → VR G' v u → next (a.put o.dst u) w') : o.wpIn (Fr r) 0 P a w next Q' := by
  obtain ⟨k, row, _, rfl, hk, _, rfl, H⟩ := H
  have main : ∀ {cs : List AV} {vals : Array Value} {t : TypeId}, VRs G cs vals → row = .row cs t → ∃ u w' G', G.le G' ∧ Inv Γ G' (putAt h k row) w' ∧ VR G' (.ptr (some (k, 0))) u ∧ u = .pointer (some ⟨w.heap.size, 0, none⟩) ∧ w' = w.alloc (.cells vals t) := fun {cs vals t} hv e => by
    subst e
    have hno : G.ρ k = none := by
      rcases hk with hk | hk
      · cases hc : G.ρ k with
        | none => rfl
        | some b => have := hI.domρ k b hc; rw [List.getElem?_eq_none_iff] at hk; omega
      · exact (hI.obj k _ hk).1
    have hle : G.le (G.add k w.heap.size) :=
      ⟨rfl, fun i c e => by simp only [Gh.add]; rw [if_neg (fun e' => by subst e'; rw [hno] at e; cases e)]; exact e, fun _ _ _ e => e, fun _ r e => ⟨r, e, Nat.le_refl _, fun _ => rfl⟩, fun _ _ e => e, fun _ e => e, fun b _ e _ => ⟨b, e⟩⟩
    obtain ⟨k1, k2⟩ := hI.allocAt (.cells vals t) (.row cs t) hk ⟨w.heap.size, vals, Gh.add_same _ _ _, heap_alloc_new w _, hv.mono hle⟩
    exact ⟨_, _, _, k1, k2, .ptr (Gh.add_same _ _ _), rfl, rfl⟩
  refine ⟨fun _ _ => trivial, ?_⟩
  show o.uponIn (Fr r) 0 P a next Q' ((o.semAt r a.eval).run P w)
  unfold DetV aOper0 at H
  unfold Abs.al at hi
  split at hi
  · rename_i t hc
    rw [hc] at H
    simp only [aop] at H
    rw [semAt_ok r a.eval o (fun c' e => by rw [hc] at e; cases e)]
    unfold aAlloc at H
    split at H
    · rename_i z hz
      obtain ⟨u, w', G', k1, k2, k3, rfl, rfl⟩ := main (ofV1s_VR G z.cells) (by have := H.2; simpa using this.symm)
      have hrun : (execOp a.eval o).run P w = .ok (.value (.pointer (some ⟨w.heap.size, 0, none⟩))) (w.alloc (.cells z.cells t)) := by
        simp [execOp, hc, Instr.alloc, run_zero' hz, newVar, newRow]
      rw [hrun]
      exact hn _ _ _ k1 k2 k3
    · exact H.elim
  · rename_i t x hc
    rw [hc] at H
    simp only [aop] at H
    rw [semAt_ok r a.eval o (fun c' e => by rw [hc] at e; cases e)]
    unfold aBox at H
    have hv := (ev_VR hI ht x).cells (AV.good_cells H.1).2
    obtain ⟨u, w', G', k1, k2, k3, rfl, rfl⟩ := main hv (by have := H.2.2; simpa using this.symm)
    have hrun : (execOp a.eval o).run P w = .ok (.value (.pointer (some ⟨w.heap.size, 0, none⟩))) (w.alloc (.cells (a.eval x).cells t)) := by
      simp [execOp, hc, Instr.box, newVar, newRow]
    rw [hrun]
    exact hn _ _ _ k1 k2 k3
  · cases hi

theorem any_ok (hd : drawOK ops = true) (hN : dstOK N ops = true) {K : Tm → AH → Prop} (hK : ∀ σ σ' h, Eqv σ σ' → K σ' h → K σ h) {G0 : Gh} {ds : List Deferred} {r : Option Nat} :
    ∀ (fuel : Nat) (listed : Array Bool) (a : Act) (w : World) (G : Gh) (σ : Tm) (h : AH), listed.size = ops.size → ClosedL ops listed → (rem ops listed).length ≤ fuel → G0.le G → Inv Γ G h w → TR N G σ a.tmps → a.defers = ds → Sep σ (seps ops.toList) →
      (∃ m, Seq1 P Γ ops.toList m h ((rem ops listed).filterMap (ops[·]?)) σ K) → wpAnyIn (Fr r) 0 P .any ops (Post Γ N G0 ds (thenA K fun _ _ _ => False)) fuel listed a w := by
  have hdst : ∀ (i : Nat) (o : Oper), ops[i]? = some o → ∀ x, o.dst = some x → x < N := fun i o ho x hx => by
    have := List.all_eq_true.1 hN o (by simpa using Array.mem_of_getElem? ho)
    rw [hx] at this
    exact Nat.le_of_ble_eq_true this
  have hrr : ∀ {listed : Array Bool} {i : Nat}, listed.size = ops.size → i ∈ Region.ready .any ops listed → i ∈ rem ops listed := fun hs hi => by
    obtain ⟨h0, o, ho, _⟩ := mem_ready.1 hi
    exact mem_rem.2 ⟨(Array.getElem?_eq_some_iff.1 ho).1, h0⟩
  have hleast : ∀ {listed : Array Bool}, listed.size = ops.size → rem ops listed ≠ [] → Region.ready .any ops listed ≠ [] := fun {listed} hs hne hr => by
    cases hl : rem ops listed with
    | nil => exact hne hl
    | cons m L =>
      obtain ⟨hm1, hm2⟩ := mem_rem.1 (show m ∈ rem ops listed by rw [hl]; exact List.mem_cons_self ..)
      have hmin : ∀ j ∈ rem ops listed, m ≤ j := fun j hj => by
        have hp := rem_lt (ops := ops) listed
        rw [hl] at hp hj
        rcases List.mem_cons.1 hj with rfl | hj
        · exact Nat.le_refl _
        · exact Nat.le_of_lt ((List.pairwise_cons.1 hp).1 j hj)
      have : m ∈ Region.ready .any ops listed := mem_ready.2 ⟨hm2, ops[m], Array.getElem?_eq_getElem hm1, fun e he hb => by
        have hlt := (drawOK_at hd (Array.getElem?_eq_getElem hm1)).2.1 e he hb
        rw [getD_ff (by rw [hs]; omega)]
        cases hx : listed.getD e.on true with
        | true => rfl
        | false => have := hmin e.on (mem_rem.2 ⟨by omega, hx⟩); omega⟩
      rw [hr] at this; cases this
  have done : ∀ (listed : Array Bool) (a : Act) (w : World) (G : Gh) (σ : Tm) (h : AH), rem ops listed = [] → G0.le G → Inv Γ G h w → TR N G σ a.tmps → a.defers = ds →
      (∃ m, Seq1 P Γ ops.toList m h ((rem ops listed).filterMap (ops[·]?)) σ K) → Post Γ N G0 ds (thenA K fun _ _ _ => False) .normal a w := fun listed a w G σ h hr hle hI ht had H => by
    obtain ⟨m, H⟩ := H
    rw [hr] at H
    exact ⟨G, σ, h, [], hle, hI, ht, by simpa using had, fun D hD => by simp at hD, List.nodup_nil, H⟩
  intro fuel
  induction fuel with
  | zero =>
    intro listed a w G σ h hs hc hf hle hI ht had hsp H
    have hr : rem ops listed = [] := List.length_eq_zero_iff.1 (by omega)
    refine ⟨?_, done listed a w G σ h hr hle hI ht had H⟩
    cases hx : Region.ready .any ops listed with
    | nil => rfl
    | cons i _ => have := hrr hs (show i ∈ Region.ready .any ops listed by rw [hx]; exact List.mem_cons_self ..); rw [hr] at this; cases this
  | succ fuel ih =>
    intro listed a w G σ h hs hc hf hle hI ht had hsp H
    refine ⟨fun hr => done listed a w G σ h ?_ hle hI ht had H, fun i hi => ?_⟩
    · exact Classical.byContradiction fun hne => hleast hs hne hr
    · have him := hrr hs hi
      obtain ⟨hi0, o, ho, hedges⟩ := mem_ready.1 hi
      obtain ⟨L1, L2, e1, e2, e3⟩ := rem_set hs him
      obtain ⟨hb1, hb2, hb3⟩ := drawOK_at hd ho
      have hil : i < ops.size := (Array.getElem?_eq_some_iff.1 ho).1
      have hpre : ∀ j, j < ops.size → ((Region.before ops).getD i 0).testBit j = true → listed.getD j true = true := fun j hj hbit => by
        rw [hb1] at hbit
        rcases foldB_aux _ j _ _ hbit with h0 | ⟨e, he, hbd, hor⟩
        · simp at h0
        · have hel := hedges e (by simpa using he) hbd
          have helt := hb2 e (by simpa using he) hbd
          rw [getD_ff (by omega)] at hel
          rcases hor with rfl | hor
          · exact hel
          · exact hc e.on (by omega) hel j hj hor
      have hc' : ClosedL ops (listed.setIfInBounds i true) := fun k hk hkl j hj hbit => by
        by_cases hji : j = i
        · subst hji; exact getD_set_self (by omega) _
        · rw [getD_set_other (fun e => hji e.symm)]
          by_cases hki : k = i
          · subst hki; exact hpre j hj hbit
          · rw [getD_set_other (fun e => hki e.symm)] at hkl
            exact hc k hk hkl j hj hbit
      obtain ⟨m, H⟩ := H
      rw [e1, List.filterMap_append, List.filterMap_cons, ho] at H
      simp only at H
      have hap : ∀ x ∈ L1.filterMap (ops[·]?), apart1 ops.toList o x = true ∧ x ∈ ops.toList := fun x hx => by
        obtain ⟨j, hj, hjx⟩ := List.mem_filterMap.1 hx
        obtain ⟨j1, j2⟩ := e3 j hj
        refine ⟨?_, by simpa using Array.mem_of_getElem? hjx⟩
        refine hb3 j x j1 hjx ?_
        cases hbit : ((Region.before ops).getD i 0).testBit j with
        | false => rfl
        | true => rw [hpre j (by omega) hbit] at j2; cases j2
      obtain ⟨v, h2, s1, _, s2⟩ := Seq1.pull _ _ _ _ hap hsp H
      have s3 := Seq1.mono _ _ _ _ (fun σ h (k : ∃ σ', Eqv σ σ' ∧ K σ' h) => by obtain ⟨σ', k1, k2⟩ := k; exact hK _ _ _ k1 k2) s2
      rw [← List.filterMap_append, ← e2] at s3
      have hf' : (rem ops (listed.setIfInBounds i true)).length ≤ fuel := by rw [e1] at hf; rw [e2]; simp at hf ⊢; omega
      have hdo := hdst i o ho
      have hsp' : ∀ v', Sep (put o.dst v' σ) (seps ops.toList) := fun v' => hsp.put (by simpa using Array.mem_of_getElem? ho)
      unfold wpOpIn
      simp only [ho]
      have run : DetV P Γ o σ h v h2 → o.wpIn (Fr r) 0 P a w (wpAnyIn (Fr r) 0 P .any ops (Post Γ N G0 ds (thenA K fun _ _ _ => False)) fuel (listed.setIfInBounds i true)) (Post Γ N G0 ds (thenA K fun _ _ _ => False)) := fun H =>
        aOper0_ok hI ht H fun u v' G' h' w' k1 k2 k3 k4 => by
          obtain ⟨rfl, rfl⟩ := k4
          exact ih _ _ w' G' _ _ (by simpa using hs) hc' hf' (hle.trans k1) k2 ((ht.mono k1).put hdo k3) ((put_defers a o.dst u).trans had) (hsp' _) ⟨m, s3⟩
      by_cases hal : isAl o = true
      · obtain ⟨ha1, ha2⟩ := isAl_al hal
        unfold Region.wanted
        simp only [ha2, if_true]
        exact (s1.al hal).ok hI ht ha1 fun u G' w' k1 k2 k3 =>
          ih _ _ w' G' _ _ (by simpa using hs) hc' hf' (hle.trans k1) k2 ((ht.mono k1).put hdo k3) ((put_defers a o.dst u).trans had) (hsp' _) ⟨m, s3⟩
      have s1 := s1.no hal
      unfold Step1 at s1
      unfold Region.wanted
      split at s1
      · rename_i hg
        simp only [hg, if_true]
        exact run s1
      · rename_i j want hg
        simp only [hg]
        obtain ⟨t, b, hj, hb, hor⟩ := s1
        rw [dstAt_eq, Array.getElem?_toList] at hj
        rw [yielded_gv ht hj hb]
        rcases hor with ⟨rfl, hv⟩ | ⟨hbn, rfl, rfl⟩
        · simp only [beq_self_eq_true, if_true]; exact run hv
        · have : (b == some want) = false := by simpa using hbn
          simp only [this, Bool.false_eq_true, if_false]
          exact ⟨fun _ _ => trivial, ih _ _ w G _ _ (by simpa using hs) hc' hf' hle hI (ht.put hdo (VR.undef G)) ((put_defers a o.dst undef).trans had) (hsp' _) ⟨m, s3⟩⟩

theorem rem_all : Abs.rem ops (Array.replicate ops.size false) = List.range ops.size := by
  unfold rem
  refine List.filter_eq_self.2 fun i hi => ?_
  have : i < ops.size := List.mem_range.1 hi
  simp [Array.getD_eq_getD_getElem?, this]

/-- **A region that draws its order.** -/
theorem awp_draw {id : Nat} (hm : P.follows .mixedOrders = true) (hd : drawOK ops = true) (hN : dstOK N ops = true) (hsp : Sep σ (seps ops.toList)) (H : aDets P Γ ops.toList (fun σ h => Q .normal σ h) ops.toList σ h) : AWP P Γ N (.region id ops true) Q σ h := fun r G w a hr hI ht => by
  have hs := aDets_seq _ 0 _ σ σ (Nat.zero_le _) (fun _ => rfl) H
  refine wpIn_mono (Q := Post Γ N G a.defers (thenA (fun σ h => ∃ σ3, Eqv σ σ3 ∧ Q .normal σ3 h) fun _ _ _ => False)) ?_ fun e a' w' hp => ?_
  · refine wpIn_region_any hm (any_ok (K := fun σ h => ∃ σ3, Eqv σ σ3 ∧ Q .normal σ3 h) hd hN (fun σ σ' h e ⟨σ3, k1, k2⟩ => ⟨σ3, fun i => (e i).trans (k1 i), k2⟩) ops.size _ a _ G σ h (by simp) (fun i hi hl => ?_) ?_ (Gh.le.refl G) ?_ ht rfl hsp ?_)
    · simp [Array.getD_eq_getD_getElem?, hi] at hl
    · rw [rem_all]; simp
    · exact hI.later (Nat.le_refl _) rfl rfl rfl (fun _ _ => rfl)
    · rw [rem_all, filterMap_range]; exact ⟨0, hs⟩
  · obtain ⟨G', σ', h', Ds, h1, h2, h3, h4, h5, h6, h7⟩ := hp
    cases e with
    | normal =>
      obtain ⟨σ3, k1, k2⟩ := h7
      exact ⟨G', σ3, h', Ds, h1, h2, ⟨h3.1, fun i => by rw [← k1 i]; exact h3.2 i⟩, h4, h5, h6, k2⟩
    | _ => exact h7.elim
end
end Go.Abs
