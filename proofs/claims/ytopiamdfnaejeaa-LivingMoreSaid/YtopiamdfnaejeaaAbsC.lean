/- What the model's operations on memory do, seen abstractly: constants, loads, stores, new variables, addresses. It says nothing of any program; no conditions. -/
import Derived.Test.YtopiamdfnaejeaaAbsB
set_option linter.unusedSimpArgs false
set_option linter.unusedVariables false
namespace Go.Abs
open Go Go.RowKit

def tsz (P : Program) (t : TypeId) : Option Nat := (P.info? t).map (·.size)
def tbytes (P : Program) (t : TypeId) : Option Nat := (P.info? t).map (·.bytes)
def tzero (P : Program) (t : TypeId) : Option Value := (P.info? t).bind (·.zero)

/-- A constant of one cell. -/
def ofV1 : Value → AV
  | .int k n => .int k n
  | .bool b => .bool b
  | .string s => .str s
  | .pointer none => .ptr none
  | .slice none 0 0 => .sl [] .full
  | .map none => .map none
  | .nilFunc => .nilFunc
  | .nilIface => .nilIface
  | _ => .top
/-- A constant. -/
def ofV : Value → AV
  | .agg cs => .agg (cs.toList.map ofV1)
  | .tuple cs => .tuple (cs.toList.map ofV1)
  | v => ofV1 v

theorem VR.nilSl (G : Gh) (own : Own) (ho : OwnR G [] none 0 0 own) : VR G (.sl [] own) (.slice none 0 0) :=
  VR.sl (rows := []) (sz := 0) (fun _ _ => undef) (Nat.le_refl _) (fun _ => rfl) (fun k r h => by simp at h) (fun k r j c h => by simp at h) (fun k r j c h => by simp at h) ho

theorem ofV1_VR (G : Gh) (v : Value) : VR G (ofV1 v) v := by
  unfold ofV1
  split <;> first | exact .int _ _ | exact .bool _ | exact .str _ | exact .ptrNil | exact VR.nilSl G .full rfl | exact .mapNil | exact .nilFunc | exact .nilIface | exact .top _

theorem ofV1s_VR (G : Gh) (cs : Array Value) : VRs G (cs.toList.map ofV1) cs :=
  VRs.of_get (by simp) fun j c v e e' => by
    have e'' : cs.toList[j]? = some v := by simpa using e'
    rw [List.getElem?_map, e''] at e
    simp at e; subst e; exact ofV1_VR G v

theorem ofV_VR (G : Gh) (v : Value) : VR G (ofV v) v := by
  unfold ofV
  split
  · exact .agg (ofV1s_VR G _).1 (ofV1s_VR G _).2
  · exact .tuple (ofV1s_VR G _).1 (ofV1s_VR G _).2
  · exact ofV1_VR G v

/-- An operand. -/
def ev (Γ : Nat → Option (List AV)) (σ : Tm) : Operand → AV
  | .tmp t => lk σ t
  | .const v => ofV v
  | .global g => match Γ g with
    | some cs => .eptr cs
    | none => .top
  | .func f => .func f [] []

/-- What an operation leaves, seen abstractly. -/
def SemOK (P : Program) (Γ : Nat → Option (List AV)) (G : Gh) (w : World) (s : Sem Value) (K : AV → AH → Prop) : Prop :=
  ∃ u w' G' av h', s.run P w = .ok u w' ∧ G.le G' ∧ Inv Γ G' h' w' ∧ VR G' av u ∧ K av h'
def SemOKU (P : Program) (Γ : Nat → Option (List AV)) (G : Gh) (w : World) (s : Sem Unit) (K : AH → Prop) : Prop :=
  ∃ w' G' h', s.run P w = .ok () w' ∧ G.le G' ∧ Inv Γ G' h' w' ∧ K h'

section
variable {P : Program} {Γ : Nat → Option (List AV)} {G : Gh} {h : AH} {w : World} {N : Nat} {σ : Tm}

theorem ev_VR (hI : Inv Γ G h w) {a : Act} (ht : TR N G σ a.tmps) (x : Operand) : VR G (ev Γ σ x) (a.eval x) := by
  cases x with
  | tmp t => exact ht.2 t
  | const v => exact ofV_VR G v
  | global g =>
    simp only [ev, Act.eval]
    cases hg : Γ g with
    | none => exact .top _
    | some cs => exact hI.glob g cs hg
  | func f => exact .func rfl rfl (fun j c e => by simp at e) (fun j c e => by simp at e)

theorem run_sizeOf' {t : TypeId} {n : Nat} (e : tsz P t = some n) (w : World) : (sizeOf t).run P w = .ok n w := by
  unfold tsz at e
  cases hi : P.info? t with
  | none => simp [hi] at e
  | some i => simp [hi] at e; simp [sizeOf, typeInfo, hi, e]

theorem run_zero' {t : TypeId} {z : Value} (e : tzero P t = some z) (w : World) : (zeroValue t).run P w = .ok z w := by
  unfold tzero at e
  cases hi : P.info? t with
  | none => simp [hi] at e
  | some i => simp [hi] at e; simp [zeroValue, typeInfo, hi, e]

def aggD : TypeDesc → Bool
  | .struct _ | .array _ _ => true
  | _ => false

theorem run_isAgg' {t : TypeId} {d : TypeDesc} (e : P.underlying t = some d) (w : World) : (isAgg t).run P w = .ok (aggD d) w := by
  cases d <;> simp [isAgg, run_underlying e, aggD]

/-- Reading a variable of type t that begins with these cells. -/
def aLd (P : Program) (t : TypeId) (cs : List AV) (k : AV → Prop) : Prop :=
  match P.underlying t with
  | none => False
  | some d => if aggD d then (match tsz P t with
      | some n => n ≤ cs.length ∧ k (.agg (cs.take n))
      | none => False) else (match cs with
      | c :: _ => k c
      | [] => False)

/-- Cells at a place. -/
def At (G : Gh) (w : World) (b o : Nat) (cs : List AV) : Prop := ∀ j c, cs[j]? = some c → ∃ v, w.cell? ⟨b, o + j, none⟩ = some v ∧ VR G c v

theorem At.drop {b o : Nat} {cs : List AV} (hA : At G w b o cs) (n : Nat) : At G w b (o + n) (cs.drop n) := fun j c e => by
  rw [List.getElem?_drop] at e
  obtain ⟨v, h1, h2⟩ := hA _ c e
  exact ⟨v, by rw [show o + n + j = o + (n + j) from by omega]; exact h1, h2⟩

theorem At.of_eptr (hI : Inv Γ G h w) {cs : List AV} {b o : Nat} (hv : VR G (.eptr cs) (.pointer (some ⟨b, o, none⟩))) : At G w b o cs := by
  cases hv with
  | eptr vals hF hv => exact fun j c e => ⟨vals j, hI.fix _ _ _ (hF j c e), hv j c e⟩

theorem At.of_row {b : Nat} {vals : Array Value} {T : TypeId} {cs : List AV} (hb : w.heap[b]? = some (.cells vals T (0, 0))) (hv : VRs G cs vals) : At G w b 0 cs := fun j c e => by
  obtain ⟨v, h1, h2⟩ := hv.get e
  exact ⟨v, by rw [cell_of hb, Nat.zero_add]; exact h1, h2⟩

theorem loadVar_ok {t : TypeId} {b o : Nat} {cs : List AV} (hA : At G w b o cs) {k : AV → Prop} (H : aLd P t cs k) :
    ∃ u av, (loadVar t ⟨b, o, none⟩).run P w = .ok u w ∧ VR G av u ∧ k av := by
  unfold aLd at H
  split at H
  · exact H.elim
  · rename_i d hd
    split at H
    · rename_i ha
      split at H
      · rename_i n hn
        obtain ⟨hle, hk⟩ := H
        have hr := run_loadCells (P := P) w ⟨b, o, none⟩ n (fun j => (w.cell? ⟨b, o + j, none⟩).getD undef) (fun j hj => by
          obtain ⟨v, h1, _⟩ := hA j _ (List.getElem?_eq_getElem (show j < cs.length by omega))
          rw [Addr.add_lit, h1]; rfl)
        refine ⟨.agg ((List.range n).map fun j => (w.cell? ⟨b, o + j, none⟩).getD undef).toArray, _, ?_, ?_, hk⟩
        · simp only [loadVar, Sem.run_bind, run_isAgg' hd, ha, Result.andThen_ok, if_true, run_sizeOf' hn, hr, Sem.run_pure]
        · have hs : VRs G (cs.take n) ((List.range n).map fun j => (w.cell? ⟨b, o + j, none⟩).getD undef).toArray :=
            VRs.of_get (by simp; omega) fun j c v e e' => by
              rw [List.getElem?_take] at e
              split at e
              · rename_i hj
                obtain ⟨u, h1, h2⟩ := hA j c e
                simp [hj, h1] at e'
                subst e'; exact h2
              · cases e
          exact .agg hs.1 hs.2
      · exact H.elim
    · rename_i ha
      split at H
      · rename_i c rest
        obtain ⟨v, h1, h2⟩ := hA 0 c rfl
        refine ⟨v, c, ?_, h2, H⟩
        simp only [Bool.not_eq_true] at ha
        simp only [loadVar, Sem.run_bind, run_isAgg' hd, ha, Result.andThen_ok, Bool.false_eq_true, if_false, run_load]
        rw [Nat.add_zero] at h1
        rw [h1]
      · exact H.elim

/-- A load through an address. -/
def aLoad (P : Program) (t : TypeId) (a : AV) (h : AH) (K : AV → AH → Prop) : Prop :=
  match a with
  | .ptr (some (i, o)) => match h[i]? with
    | some (.row cs _) => aLd P t (cs.drop o) fun v => K v h
    | _ => False
  | .eptr cs => aLd P t cs fun v => K v h
  | _ => False

theorem loadAt_same (hI : Inv Γ G h w) {t : TypeId} {a : AV} {v : Value} (ha : VR G a v) {K : AV → AH → Prop} (H : aLoad P t a h K) : ∃ ad u av, v = .pointer (some ad) ∧ (loadVar t ad).run P w = .ok u w ∧ VR G av u ∧ K av h := by
  unfold aLoad at H
  split at H
  · rename_i i o
    split at H
    · rename_i cs T hrow
      obtain ⟨b, vals, h1, h2, h3⟩ := hI.row hrow
      cases ha with
      | ptr hb =>
        rw [h1] at hb; cases hb
        obtain ⟨u, av, r, hv, hk⟩ := loadVar_ok ((At.of_row h2 h3).drop o) H
        rw [Nat.zero_add] at r
        exact ⟨_, u, av, rfl, r, hv, hk⟩
    · exact H.elim
  · cases ha with
    | eptr vals hF hv =>
      obtain ⟨u, av, r, hv, hk⟩ := loadVar_ok (At.of_eptr hI (.eptr vals hF hv)) H
      exact ⟨_, u, av, rfl, r, hv, hk⟩
  · exact H.elim

theorem loadAt_ok (hI : Inv Γ G h w) {t : TypeId} {a : AV} {v : Value} (ha : VR G a v) {K : AV → AH → Prop} (H : aLoad P t a h K) : SemOK P Γ G w (Instr.loadAt t v) K := by
  obtain ⟨ad, u, av, rfl, r, hv, hk⟩ := loadAt_same hI ha H
  exact ⟨u, w, G, av, h, by simp [Instr.loadAt, Instr.sureAddr, r], Gh.le.refl G, hI, hv, hk⟩

/-- May a value be stored? -/
def AV.good : AV → Bool
  | .tuple _ | .top => false
  | .agg cs => cs.all AV.one
  | _ => true

theorem AV.good_cells {a : AV} (h : a.good = true) : (∀ c ∈ a.cells, c.one = true) ∧ (a.one = true ∨ ∃ cs, a = .agg cs) := by
  cases a with
  | agg cs => exact ⟨fun c hc => List.all_eq_true.1 h c hc, .inr ⟨cs, rfl⟩⟩
  | tuple _ => simp [AV.good] at h
  | top => simp [AV.good] at h
  | _ => exact ⟨fun c hc => by simp [AV.cells] at hc; subst hc; rfl, .inl rfl⟩

theorem VRs.oneCells {cs : List AV} {vals : Array Value} (hv : VRs G cs vals) (ho : ∀ c ∈ cs, c.one = true) : ∀ v ∈ vals.toList, v.oneCell' = true := fun v hm => by
  obtain ⟨j, hj, e⟩ := List.getElem_of_mem hm
  have hj' : j < cs.length := by rw [hv.1]; simpa using hj
  obtain ⟨u, h1, h2⟩ := hv.get (List.getElem?_eq_getElem hj')
  have : u = v := by
    have : vals.toList[j]? = some v := by rw [List.getElem?_eq_getElem hj, e]
    rw [Array.getElem?_toList] at this
    rw [h1] at this; exact Option.some.inj this
  subst this
  exact h2.oneCell (ho _ (List.getElem_mem hj'))

/-- Cells written over others. -/
def splice (cs : List AV) (o : Nat) (xs : List AV) : List AV :=
  match xs with
  | [x] => cs.set o x
  | _ => cs.take o ++ xs ++ cs.drop (o + xs.length)

theorem splice_get (cs : List AV) (o : Nat) (xs : List AV) (hl : o + xs.length ≤ cs.length) (j : Nat) : (splice cs o xs)[j]? = if o ≤ j ∧ j < o + xs.length then xs[j - o]? else cs[j]? := by
  have key : (cs.take o ++ xs ++ cs.drop (o + xs.length))[j]? = if o ≤ j ∧ j < o + xs.length then xs[j - o]? else cs[j]? := by
    have ho : (cs.take o).length = o := by simp; omega
    rw [List.getElem?_append, List.length_append, ho, List.getElem?_append, ho]
    by_cases h1 : j < o
    · rw [if_pos (by omega), if_pos h1, if_neg (by omega), List.getElem?_take, if_pos h1]
    · by_cases h2 : j < o + xs.length
      · rw [if_pos h2, if_neg h1, if_pos ⟨by omega, h2⟩]
      · rw [if_neg h2, if_neg (by omega), List.getElem?_drop]
        congr 1; omega
  unfold splice
  split
  · rename_i x
    simp only [List.length_cons, List.length_nil] at hl ⊢
    rw [List.getElem?_set]
    by_cases hj : o = j
    · subst hj
      rw [if_pos rfl, if_pos (show o < cs.length by omega), if_pos ⟨Nat.le_refl _, by omega⟩]
      simp
    · rw [if_neg hj, if_neg (by omega)]
  · exact key

theorem splice_length (cs : List AV) (o : Nat) (xs : List AV) (hl : o + xs.length ≤ cs.length) : (splice cs o xs).length = cs.length := by
  unfold splice
  split
  · simp
  · simp; omega

theorem VRs.splice {cs xs : List AV} {vals ys : Array Value} {o : Nat} (hv : VRs G cs vals) (hx : VRs G xs ys) (hl : o + xs.length ≤ cs.length) :
    VRs G (splice cs o xs) (vals.toList.take o ++ ys.toList ++ vals.toList.drop (o + ys.toList.length)).toArray := by
  have hvl : vals.toList.length = cs.length := by simp [hv.1]
  have hyl : ys.toList.length = xs.length := by simp [hx.1]
  refine VRs.of_get (by rw [splice_length cs o xs hl]; simp only [List.size_toArray, List.length_append, List.length_take, List.length_drop]; omega) fun j c v e e' => ?_
  rw [splice_get cs o xs hl] at e
  rw [List.getElem?_toArray] at e'
  have ho : (vals.toList.take o).length = o := by rw [List.length_take]; omega
  rw [List.getElem?_append, List.length_append, ho, List.getElem?_append, ho, hyl] at e'
  by_cases h1 : j < o
  · rw [if_pos (by omega), if_pos h1, List.getElem?_take, if_pos h1, Array.getElem?_toList] at e'
    rw [if_neg (by omega)] at e
    obtain ⟨u, k1, k2⟩ := hv.get e
    rw [k1] at e'; cases e'; exact k2
  · by_cases h2 : j < o + xs.length
    · rw [if_pos h2, if_neg h1, Array.getElem?_toList] at e'
      rw [if_pos ⟨by omega, h2⟩] at e
      obtain ⟨u, k1, k2⟩ := hx.get e
      rw [k1] at e'; cases e'; exact k2
    · rw [if_neg h2, List.getElem?_drop, Array.getElem?_toList] at e'
      rw [if_neg (by omega)] at e
      rw [show o + xs.length + (j - (o + xs.length)) = j from by omega] at e'
      obtain ⟨u, k1, k2⟩ := hv.get e
      rw [k1] at e'; cases e'; exact k2

/-- A store through an address of one's own. -/
def aStore (P : Program) (t : TypeId) (a x : AV) (h : AH) (K : AH → Prop) : Prop :=
  match a with
  | .ptr (some (i, o)) => match h[i]? with
    | some (.row cs T) => tsz P t = some x.cells.length ∧ x.good = true ∧ o + x.cells.length ≤ cs.length ∧ K (h.set i (.row (splice cs o x.cells) T))
    | _ => False
  | _ => False

theorem heap_setRow_ne (w : World) (g k : Nat) (cur : Array Value) (hk : k ≠ g) : (w.setRow g cur).heap[k]? = w.heap[k]? := by
  simp only [World.setRow, Array.getElem?_modify]
  rw [if_neg (fun e => hk e.symm)]

theorem storeAt_ok (hI : Inv Γ G h w) {t : TypeId} {a x : AV} {v u : Value} (ha : VR G a v) (hx : VR G x u) {K : AH → Prop} (H : aStore P t a x h K) : SemOKU P Γ G w (Instr.storeAt t v u) K := by
  unfold aStore at H
  split at H
  · rename_i i o
    split at H
    · rename_i cs T hrow
      obtain ⟨hsz, hgd, hfit, hk⟩ := H
      obtain ⟨b, vals, h1, h2, h3⟩ := hI.row hrow
      cases ha with
      | ptr hb =>
        rw [h1] at hb; cases hb
        have hc := hx.cells (AV.good_cells hgd).2
        have hone := hc.oneCells (AV.good_cells hgd).1
        have hst := run_storeCells_at P b o T u.cells.toList 0 vals w h2 (by have := h3.1; have := hc.1; simp only [Array.length_toList]; omega) hone
        simp only [Nat.add_zero] at hst
        refine ⟨w.setRow b (vals.toList.take o ++ u.cells.toList ++ vals.toList.drop (o + u.cells.toList.length)).toArray, G, _, ?_, Gh.le.refl G, ?_, hk⟩
        · simp only [Instr.storeAt, Instr.sureAddr, Sem.run_bind, Sem.run_pure, Result.andThen_ok, storeVar, run_sizeOf' hsz, hc.1, ne_eq, not_true_eq_false, if_false, hst]
        · have hnew := setRow_heap w b vals (vals.toList.take o ++ u.cells.toList ++ vals.toList.drop (o + u.cells.toList.length)).toArray T (0, 0) h2
          refine hI.write (w' := w.setRow b (vals.toList.take o ++ u.cells.toList ++ vals.toList.drop (o + u.cells.toList.length)).toArray) h1 (by simp [World.setRow]) rfl rfl rfl (fun k hk' => heap_setRow_ne w b k _ hk') _ ?_ ?_ (by rw [h2]; simp) (by rw [hrow]; simp)
          · exact ⟨b, _, h1, hnew, h3.splice hc hfit⟩
          · intro D hD
            obtain ⟨l, k1, _⟩ := hI.lp b D hD
            rw [h2] at k1; cases k1
    · exact H.elim
  · exact H.elim

/-- A new variable of one's own. -/
def aBox (t : TypeId) (x : AV) (h : AH) (K : AV → AH → Prop) : Prop := x.good = true ∧ K (.ptr (some (h.length, 0))) (h ++ [.row x.cells t])

theorem newVar_ok (hI : Inv Γ G h w) {t : TypeId} {cs : List AV} {vals : Array Value} (hv : VRs G cs vals) :
    Inv Γ (G.add h.length w.heap.size) (h ++ [.row cs t]) (w.alloc (.cells vals t)) :=
  hI.alloc _ _ ⟨w.heap.size, vals, Gh.add_same _ _ _, heap_alloc_new w _, hv.mono (hI.add_le _)⟩

theorem box_ok (hI : Inv Γ G h w) {t : TypeId} {x : AV} {u : Value} (hx : VR G x u) {K : AV → AH → Prop} (H : aBox t x h K) : SemOK P Γ G w (Instr.box t u) K :=
  ⟨.pointer (some ⟨w.heap.size, 0, none⟩), w.alloc (.cells u.cells t), G.add h.length w.heap.size, _, _, by simp [Instr.box, newVar, newRow], hI.add_le _,
    newVar_ok hI (hx.cells (AV.good_cells H.1).2), .ptr (Gh.add_same _ _ _), H.2⟩

def aAlloc (P : Program) (t : TypeId) (h : AH) (K : AV → AH → Prop) : Prop :=
  match tzero P t with
  | some z => K (.ptr (some (h.length, 0))) (h ++ [.row (z.cells.toList.map ofV1) t])
  | none => False

theorem alloc_ok (hI : Inv Γ G h w) {t : TypeId} {K : AV → AH → Prop} (H : aAlloc P t h K) : SemOK P Γ G w (Instr.alloc t true (.tuple #[])) K := by
  unfold aAlloc at H
  split at H
  · rename_i z hz
    exact ⟨.pointer (some ⟨w.heap.size, 0, none⟩), w.alloc (.cells z.cells t), G.add h.length w.heap.size, _, _, by simp [Instr.alloc, run_zero' hz, newVar, newRow], hI.add_le _,
      newVar_ok hI (ofV1s_VR G z.cells), .ptr (Gh.add_same _ _ _), H⟩
  · exact H.elim

/-- The address of a field. -/
def aFieldAddr (P : Program) (s : TypeId) (a : AV) (f : Nat) (K : AV → Prop) : Prop :=
  match P.underlying s with
  | some (.struct fields) => match fields[f]? with
    | some fd => (∃ n, tsz P fd.type = some (n + 1)) ∧ (match a with
      | .ptr (some (i, o)) => K (.ptr (some (i, o + fd.offset)))
      | .eptr cs => K (.eptr (cs.drop fd.offset))
      | _ => False)
    | none => False
  | _ => False

theorem VR.eptr_drop {cs : List AV} {b o : Nat} (hv : VR G (.eptr cs) (.pointer (some ⟨b, o, none⟩))) (n : Nat) : VR G (.eptr (cs.drop n)) (.pointer (some ⟨b, o + n, none⟩)) := by
  cases hv with
  | eptr vals hF hv =>
    exact .eptr (fun j => vals (n + j)) (fun j c e => by rw [List.getElem?_drop] at e; rw [show o + n + j = o + (n + j) from by omega]; exact hF _ c e)
      (fun j c e => by rw [List.getElem?_drop] at e; exact hv _ c e)

theorem fieldAt_ok (hI : Inv Γ G h w) {s : TypeId} {a : AV} {v : Value} {f : Nat} (ha : VR G a v) {K : AV → AH → Prop} (H : aFieldAddr P s a f fun v => K v h) : SemOK P Γ G w (Instr.fieldAt s v f) K := by
  unfold aFieldAddr at H
  split at H
  · rename_i fields hs
    split at H
    · rename_i fd hfd
      obtain ⟨⟨n, hn⟩, H⟩ := H
      have hr : ∀ b o, (Instr.fieldAt s (.pointer (some ⟨b, o, none⟩)) f).run P w = .ok (.pointer (some ⟨b, o + fd.offset, none⟩)) w := fun b o => by
        simp [Instr.fieldAt, run_underlying hs, hfd, Instr.sureAddr, fieldPlace, run_sizeOf' hn, Addr.add_lit]
      split at H
      · rename_i i o
        cases ha with
        | ptr hb => exact ⟨_, w, G, _, h, hr _ _, Gh.le.refl G, hI, .ptr hb, H⟩
      · rename_i cs
        cases ha with
        | eptr vals hF hv => exact ⟨_, w, G, _, h, hr _ _, Gh.le.refl G, hI, (VR.eptr vals hF hv).eptr_drop _, H⟩
      · exact H.elim
    · exact H.elim
  · exact H.elim

/-- A part of a struct or an array that is at hand as a value. -/
theorem part_ok {t : TypeId} {cs : List AV} {vals : Array Value} (hv : VRs G cs vals) (off : Nat) {k : AV → Prop} (H : aLd P t (cs.drop off) k) (w : World) :
    ∃ u av, (part t vals off).run P w = .ok u w ∧ VR G av u ∧ k av := by
  unfold aLd at H
  split at H
  · exact H.elim
  · rename_i d hd
    split at H
    · rename_i ha
      split at H
      · rename_i n hn
        obtain ⟨hle, hk⟩ := H
        refine ⟨.agg (vals.extract off (off + n)), .agg ((cs.drop off).take n), ?_, ?_, hk⟩
        · simp only [part, Sem.run_bind, run_isAgg' hd, ha, Result.andThen_ok, if_true, run_sizeOf' hn, Sem.run_pure]
        · have hs : VRs G ((cs.drop off).take n) (vals.extract off (off + n)) :=
            VRs.of_get (by have := hv.1; simp at hle ⊢; omega) fun j c v e e' => by
              rw [List.getElem?_take] at e
              split at e
              · rename_i hj
                rw [List.getElem?_drop] at e
                obtain ⟨u, k1, k2⟩ := hv.get e
                rw [Array.getElem?_extract] at e'
                split at e'
                · rw [k1] at e'; cases e'; exact k2
                · cases e'
              · cases e
          exact .agg hs.1 hs.2
      · exact H.elim
    · rename_i ha
      split at H
      · rename_i c rest hc
        have e : cs[off]? = some c := by
          have : (cs.drop off)[0]? = some c := by rw [hc]; rfl
          rwa [List.getElem?_drop, Nat.add_zero] at this
        obtain ⟨v, k1, k2⟩ := hv.get e
        simp only [Bool.not_eq_true] at ha
        exact ⟨v, c, by simp only [part, Sem.run_bind, run_isAgg' hd, ha, Result.andThen_ok, Bool.false_eq_true, if_false, k1, Sem.run_pure], k2, H⟩
      · exact H.elim

def aField (P : Program) (t : TypeId) (x : AV) (f : Nat) (K : AV → Prop) : Prop :=
  match P.underlying t with
  | some (.struct fields) => match fields[f]?, x with
    | some fd, .agg cs => aLd P fd.type (cs.drop fd.offset) K
    | _, _ => False
  | _ => False

theorem field_ok (hI : Inv Γ G h w) {t : TypeId} {x : AV} {u : Value} {f : Nat} (hx : VR G x u) {K : AV → AH → Prop} (H : aField P t x f fun v => K v h) : SemOK P Γ G w (Instr.field t u f) K := by
  unfold aField at H
  split at H
  · rename_i fields hs
    split at H
    · rename_i fd cs hfd
      cases hx with
      | agg hl hv =>
        obtain ⟨u, av, r, hv', hk⟩ := part_ok (P := P) ⟨hl, hv⟩ fd.offset H w
        exact ⟨u, w, G, av, h, by simp [Instr.field, run_underlying hs, hfd, asAgg, r], Gh.le.refl G, hI, hv', hk⟩
    · exact H.elim
  · exact H.elim

/-- A slice that can be read: its elements, each with its cells. -/
def aIndexAddr (P : Program) (t : TypeId) (x i : AV) (K : AV → Prop) : Prop :=
  match i with
  | .int _ n => match P.underlying t with
    | some (.slice e) => (match tsz P e with
      | some sz => (match x with
        | .sl rows _ => sz ≠ 0 ∧ 0 ≤ n ∧ ∃ r, rows[n.toNat]? = some r ∧ r.cells.length = sz ∧ K (.eptr r.cells)
        | .ms j off len _ _ => 0 ≤ n ∧ n < len ∧ K (.ptr (some (j, off + n.toNat * sz)))
        | _ => False)
      | none => False)
    | some (.array len e) => (match tsz P e with
      | some sz => 0 ≤ n ∧ n < len ∧ (match x with
        | .ptr (some (j, o)) => K (.ptr (some (j, o + n.toNat * sz)))
        | .eptr cs => K (.eptr (cs.drop (n.toNat * sz)))
        | _ => False)
      | none => False)
    | _ => False
  | _ => False

theorem indexAt_ok (hI : Inv Γ G h w) {t : TypeId} {x i : AV} {v u : Value} (hx : VR G x v) (hi : VR G i u) {K : AV → AH → Prop} (H : aIndexAddr P t x i fun v => K v h) : SemOK P Γ G w (Instr.indexAt t v u) K := by
  unfold aIndexAddr at H
  split at H
  · rename_i k n
    cases hi with
    | int =>
      split at H
      · rename_i e ht
        split at H
        · rename_i sz hsz
          split at H
          · rename_i rows own
            obtain ⟨hz, hn, r, hr, hrl, hk⟩ := H
            have hlt : n.toNat < rows.length := (List.getElem?_eq_some_iff.1 hr).1
            cases hx with
            | sl vals hcap hnil hs hF hv hown =>
              rename_i a cap sz'
              have hszz : sz' = sz := (hs _ r hr).symm.trans hrl
              subst hszz
              cases ha : a with
              | none => have := hnil ha; omega
              | some ad =>
                obtain ⟨ab, ao, asp⟩ := ad
                obtain ⟨c, hc⟩ : ∃ c, r.cells[0]? = some c := ⟨_, List.getElem?_eq_getElem (by omega)⟩
                obtain ⟨b, o, e1, e2⟩ := hF _ r 0 c hr hc
                rw [ha] at e1; cases e1
                refine ⟨.pointer (some ⟨ab, ao + n.toNat * sz', none⟩), w, G, _, h, ?_, Gh.le.refl G, hI, ?_, hk⟩
                · have : n < (rows.length : Int) := by omega
                  simp [Instr.indexAt, asIntOf, run_underlying ht, run_sizeOf' hsz, hn, this, Addr.add_lit]
                · refine .eptr (fun j => vals n.toNat j) (fun j c' e => ?_) (fun j c' e => hv _ r j c' hr e)
                  obtain ⟨b', o', e1', e2'⟩ := hF _ r j c' hr e
                  rw [ha] at e1'; cases e1'; exact e2'
          · rename_i j off len cap sz'
            obtain ⟨hn, hlt, hk⟩ := H
            cases hx with
            | ms hb =>
              exact ⟨_, w, G, _, h, by simp [Instr.indexAt, asIntOf, run_underlying ht, run_sizeOf' hsz, hn, hlt, Addr.add_lit], Gh.le.refl G, hI, .ptr hb, hk⟩
          · exact H.elim
        · exact H.elim
      · rename_i len e ht
        split at H
        · rename_i sz hsz
          obtain ⟨hn, hlt, H⟩ := H
          split at H
          · cases hx with
            | ptr hb => exact ⟨_, w, G, _, h, by simp [Instr.indexAt, asIntOf, run_underlying ht, run_sizeOf' hsz, hn, hlt, Addr.add_lit, Instr.sureAddr], Gh.le.refl G, hI, .ptr hb, H⟩
          · cases hx with
            | eptr vals hF hv => exact ⟨_, w, G, _, h, by simp [Instr.indexAt, asIntOf, run_underlying ht, run_sizeOf' hsz, hn, hlt, Addr.add_lit, Instr.sureAddr], Gh.le.refl G, hI, (VR.eptr vals hF hv).eptr_drop _, H⟩
          · exact H.elim
        · exact H.elim
      · exact H.elim
  · exact H.elim

end
end Go.Abs
