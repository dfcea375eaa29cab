/- Arrays of one's own: made, appended to, cleared; ranges over maps; a text's bytes; is a slice nil. It says nothing of any program; no conditions. -/
import Derived.Test.YtopiamdfnaejeaaAbsGc
import Derived.Maps.RangeRun
set_option linter.unusedSimpArgs false
set_option linter.unusedVariables false
namespace Go.Abs
open Go Go.RowKit

section
variable {P : Program} {Γ : Nat → Option (List AV)} {G : Gh} {h : AH} {w : World} {N : Nat} {σ : Tm}

/-! ### Zero elements -/
def zrow (k : Nat) (z : List AV) : List AV := (List.replicate k z).flatten
theorem zrow_length (k : Nat) (z : List AV) : (zrow k z).length = k * z.length := by
  induction k with
  | zero => simp [zrow]
  | succ k ih => simp only [zrow, List.replicate_succ, List.flatten_cons, List.length_append] at ih ⊢; rw [ih, Nat.succ_mul]; omega
theorem zrow_get (z : List AV) (hz : z ≠ []) : ∀ (k j : Nat), j < k * z.length → (zrow k z)[j]? = z[j % z.length]?
  | 0, j, h => by simp at h
  | k + 1, j, h => by
    have hl : 0 < z.length := List.length_pos_iff.2 hz
    simp only [zrow, List.replicate_succ, List.flatten_cons]
    by_cases hj : j < z.length
    · rw [List.getElem?_append_left hj, Nat.mod_eq_of_lt hj]
    · rw [List.getElem?_append_right (by omega)]
      have h' : j < k * z.length + z.length := by rw [← Nat.succ_mul]; exact h
      have := zrow_get z hz k (j - z.length) (by omega)
      rw [zrow] at this
      rw [this, show j % z.length = (j - z.length) % z.length from Nat.mod_eq_sub_mod (by omega)]
theorem zrow_one (k : Nat) (z : AV) : zrow k [z] = List.replicate k z := by
  induction k with
  | zero => rfl
  | succ k ih => simp only [zrow, List.replicate_succ, List.flatten_cons] at ih ⊢; rw [ih]; rfl
theorem zrow_VR (k : Nat) (zc : Array Value) (hz : zc.size ≠ 0) : VRs G (zrow k (zc.toList.map ofV1)) ((Array.range (k * zc.size)).map (zc[· % zc.size]!)) := by
  have hne : zc.toList.map ofV1 ≠ [] := fun e => hz (by have := congrArg List.length e; simpa using this)
  have hlen : (zc.toList.map ofV1).length = zc.size := by simp
  refine VRs.of_get (by simp [zrow_length]) fun j c v e e' => ?_
  have hj : j < k * zc.size := by have := (List.getElem?_eq_some_iff.1 e).1; rwa [zrow_length, hlen] at this
  rw [zrow_get _ hne k j (by rwa [hlen]), hlen] at e
  obtain ⟨u, k1, k2⟩ := (ofV1s_VR G zc).get e
  have hm : j % zc.size < zc.size := Nat.mod_lt _ (by omega)
  simp only [Array.getElem?_map, Array.getElem?_range, hj, if_true, Option.map_some] at e'
  cases e'
  rw [Array.getElem?_eq_getElem hm] at k1
  cases k1
  simpa [hm] using k2

/-! ### make -/
def aMakeSlice (P : Program) (t : TypeId) (l c : AV) (h : AH) (K : AV → AH → Prop) : Prop :=
  match P.underlying t with
  | some (.slice e) => (match tsz P e, tbytes P e, tzero P e with
    | some n, some by_, some z => (match l, c with
      | .int _ l, .int _ c => n ≠ 0 ∧ z.cells.size = n ∧ 0 ≤ l ∧ l ≤ c ∧ c ≤ 9223372036854775807 ∧ c * by_ ≤ 140737488355328 ∧ K (.ms h.length 0 l.toNat c.toNat n) (h ++ [.row (zrow c.toNat (z.cells.toList.map ofV1)) e])
      | _, _ => False)
    | _, _, _ => False)
  | _ => False
theorem makeSlice_ok (hI : Inv Γ G h w) {t : TypeId} {l c : AV} {u v : Value} (hl : VR G l u) (hc : VR G c v) {K : AV → AH → Prop} (H : aMakeSlice P t l c h K) : SemOK P Γ G w (Instr.makeSlice t u v) K := by
  unfold aMakeSlice at H
  split at H
  · rename_i e ht
    split at H
    · rename_i n by_ z hn hb hz
      split at H
      · rename_i kl l kc c
        obtain ⟨h0, hzn, h1, h2, h3, h4, H⟩ := H
        cases hl; cases hc
        obtain ⟨l, rfl⟩ := Int.eq_ofNat_of_zero_le h1
        obtain ⟨c, rfl⟩ := Int.eq_ofNat_of_zero_le (Int.le_trans h1 h2)
        simp only [Int.toNat_natCast] at H
        obtain ⟨i, hi⟩ : ∃ i, P.info? e = some i := by unfold tsz at hn; cases hi : P.info? e with
          | none => simp [hi] at hn
          | some i => exact ⟨i, rfl⟩
        have hisz : i.size = n := by simpa [tsz, hi] using hn
        have hiby : i.bytes = by_ := by simpa [tbytes, hi] using hb
        have hiz : i.zero = some z := by simpa [tzero, hi] using hz
        subst hisz hiby
        have w1 : IntKind.i64.wrap (l : Int) = l := IntWalk.i64_in _ ⟨by omega, by omega⟩
        have w2 : IntKind.i64.wrap (c : Int) = c := IntWalk.i64_in _ ⟨by omega, by omega⟩
        have h4' : c * i.bytes ≤ 140737488355328 := by have h5 : ((c * i.bytes : Nat) : Int) ≤ 140737488355328 := by rw [Int.natCast_mul]; exact h4
                                                       omega
        have hb1 : ¬ ((281474976710656 : Int) < (i.bytes : Int) * (c : Int)) := by rw [Int.mul_comm]; omega
        have hlc : ¬ (c < l) := by omega
        have hroom : ¬ (140737488355328 < c * i.bytes) := by omega
        have hrun : (Instr.makeSlice t (.int kl l) (.int kc c)).run P w = .ok (.slice (some ⟨w.heap.size, 0, none⟩) l c) (w.alloc (.cells ((Array.range (c * i.size)).map (z.cells[· % z.cells.size]!)) e)) := by
          by_cases hc0 : c = 0
          · have hl0 : l = 0 := by omega
            subst hc0 hl0
            have w0 : IntKind.i64.wrap 0 = 0 := by decide
            simp [Instr.makeSlice, run_underlying ht, asInt, asIntOf, sizeOf, typeInfo, hi, w0, askRoom, roomBytes, newRow]
            simp [show Array.range 0 = #[] from rfl]
          · have hcs : ¬ (c * i.size = 0) := by rw [Nat.mul_eq_zero]; omega
            simp [Instr.makeSlice, run_underlying ht, asInt, asIntOf, sizeOf, typeInfo, zeroValue, hi, hiz, w1, w2, hlc, hb1, hroom, hc0, h0, askRoom, roomBytes, newRow]
            rw [if_neg (by omega), if_neg hcs]
        refine ⟨_, _, _, _, _, hrun, hI.add_le _, newVar_ok hI (t := e) (by rw [← hzn]; exact zrow_VR c z.cells (by omega)), .ms (Gh.add_same _ _ _), H⟩
      · exact H.elim
    · exact H.elim
  · exact H.elim

/-! ### clear -/
def aClear (P : Program) (t : TypeId) (x : AV) (h : AH) (K : AV → AH → Prop) : Prop :=
  match P.underlying t, x with
  | some (.slice e), .sl [] _ => K (.tuple []) h
  | some (.slice e), .ms i off len _ sz => (match tsz P e, tzero P e, h[i]? with
    | some n, some z, some (.row cs T) => n = sz ∧ n ≠ 0 ∧ z.cells.size = n ∧ (∀ c ∈ z.cells.toList, c.oneCell' = true) ∧ off + len * n ≤ cs.length ∧ K (.tuple []) (h.set i (.row (splice cs off (zrow len (z.cells.toList.map ofV1))) T))
    | _, _, _ => False)
  | _, _ => False

/-! ### Writing cells of a row -/
theorem Inv.putRow (hI : Inv Γ G h w) {i : Nat} {cs xs : List AV} {T : TypeId} (hrow : h[i]? = some (.row cs T)) {o : Nat} (hfit : o + xs.length ≤ cs.length) {news : List Value} (hv : VRs G xs news.toArray) {b : Nat} {vals : Array Value}
    (h1 : G.ρ i = some b) (h2 : w.heap[b]? = some (.cells vals T (0, 0))) (h3 : VRs G cs vals) :
    Inv Γ G (h.set i (.row (splice cs o xs) T)) (w.setRow b (vals.toList.take o ++ news ++ vals.toList.drop (o + news.length)).toArray) := by
  have hnew := setRow_heap w b vals (vals.toList.take o ++ news ++ vals.toList.drop (o + news.length)).toArray T (0, 0) h2
  refine hI.write (w' := w.setRow b (vals.toList.take o ++ news ++ vals.toList.drop (o + news.length)).toArray) h1 (by simp [World.setRow]) rfl rfl rfl (fun k hk' => heap_setRow_ne w b k _ hk') _ ?_ ?_ (by rw [h2]; simp) (by rw [hrow]; simp)
  · exact ⟨b, _, h1, hnew, by simpa using h3.splice hv hfit⟩
  · intro D hD
    obtain ⟨l, k1, _⟩ := hI.lp b D hD
    rw [h2] at k1; cases k1

theorem clear_ok (hI : Inv Γ G h w) {t ty : TypeId} {x : AV} {u : Value} (hx : VR G x u) {K : AV → AH → Prop} (H : aClear P t x h K) : SemOK P Γ G w (Builtin.clear_ #[t] ty #[u]) K := by
  have hun : VR G (.tuple []) (.tuple #[]) := .tuple rfl (fun j c e => by simp at e)
  unfold aClear at H
  split at H
  · rename_i e own ht
    cases hx with
    | sl vals hcap hnil hsz hF hv hown =>
      rename_i a cap sz
      cases a with
      | none => exact .pure' hI (by simp [Builtin.clear_, run_underlying ht]) hun H
      | some a => exact .pure' hI (by simp [Builtin.clear_, run_underlying ht]) hun H
  · rename_i e i off len cap sz ht
    split at H
    · rename_i n z cs T hn hz hrow
      obtain ⟨rfl, h0, hzn, hone, hfit, H⟩ := H
      obtain ⟨b, vals, h1, h2, h3⟩ := hI.row hrow
      cases hx with
      | ms hb =>
        rw [h1] at hb; cases hb
        have hzv : VRs G (zrow len (z.cells.toList.map ofV1)) (Builtin.zeroCells z.cells len) := zrow_VR len z.cells (by omega)
        have hzl : (zrow len (z.cells.toList.map ofV1)).length = len * n := by rw [zrow_length]; simp [hzn]
        by_cases hl0 : len = 0
        · subst hl0
          have e0 : splice cs off (zrow 0 (z.cells.toList.map ofV1)) = cs := by simp [zrow, splice]
          rw [e0] at H
          have hset : h.set i (.row cs T) = h := by
            apply List.ext_getElem?
            intro j
            rw [List.getElem?_set]
            split
            · rename_i hij; subst hij
              rw [if_pos (List.getElem?_eq_some_iff.1 hrow).1, hrow]
            · rfl
          rw [hset] at H
          exact .pure' hI (by simp [Builtin.clear_, run_underlying ht]) hun H
        · have hones : ∀ v ∈ (Builtin.zeroCells z.cells len).toList, v.oneCell' = true := fun v hv => by
            simp only [Builtin.zeroCells, Array.toList_map, List.mem_map] at hv
            obtain ⟨q, _, rfl⟩ := hv
            have hm : q % z.cells.size < z.cells.size := Nat.mod_lt _ (by omega)
            refine hone _ ?_
            simp [hm]
          have hst := run_storeCells_at P b off T (Builtin.zeroCells z.cells len).toList 0 vals w h2 (by have := h3.1; have := hzv.1; simp only [Array.length_toList]; omega) hones
          simp only [Nat.add_zero] at hst
          refine ⟨_, _, G, _, _, ?_, Gh.le.refl G, hI.putRow hrow (by rw [hzl]; exact hfit) (news := (Builtin.zeroCells z.cells len).toList) (by simpa using hzv) h1 h2 h3, hun, H⟩
          have hs : (storeCells ⟨b, off, none⟩ (Builtin.zeroCells z.cells len).toList).run P w = _ := hst
          have hm : ∀ {α : Type} (A B C : Sem α), (match (Value.slice (some ⟨b, off, none⟩) len cap) with
            | .slice _ 0 _ => A
            | _ => B) = B := fun A B C => by
              cases len with
              | zero => exact absurd rfl hl0
              | succ k => rfl
          cases len with
          | zero => exact absurd rfl hl0
          | succ k => simp [Builtin.clear_, run_underlying ht, run_zero' hz, hs]
    · exact H.elim
  · exact H.elim

/-! ### Ranges over maps -/
def aRange (P : Program) (t : TypeId) (x : AV) (h : AH) (K : AV → AH → Prop) : Prop :=
  match P.underlying t, x with
  | some (.map _ _), .map none => K (.ptr (some (h.length, 0))) (h ++ [.iter none 0 []])
  | some (.map _ _), .map (some m) => (match h[m]? with
    | some (.map _ clk) => K (.ptr (some (h.length, 0))) (h ++ [.iter (some m) clk []])
    | _ => False)
  | _, _ => False
theorem range_ok (hI : Inv Γ G h w) {t : TypeId} {x : AV} {u : Value} (hx : VR G x u) {K : AV → AH → Prop} (H : aRange P t x h K) : SemOK P Γ G w (Instr.range t u) K := by
  unfold aRange at H
  split at H
  · rename_i kt et ht
    cases hx
    refine ⟨.pointer (some ⟨w.heap.size, 0, none⟩), w.alloc (.mapIter none 0 #[] 0), G.add h.length w.heap.size, _, _, by simp [Instr.range, run_underlying ht, newObj, Sem.run], hI.add_le _, hI.alloc _ (.iter none 0 []) ⟨w.heap.size, none, Gh.add_same _ _ _, heap_alloc_new w _, rfl⟩, .ptr (Gh.add_same _ _ _), H⟩
  · rename_i kt et m ht
    split at H
    · rename_i ents clk hm
      obtain ⟨b, es, k1, k2, k3, k4⟩ := hI.obj m _ hm
      cases hx with
      | map hb =>
        rw [k1] at hb; cases hb
        refine ⟨.pointer (some ⟨w.heap.size, 0, none⟩), w.alloc (.mapIter (some b) clk #[] clk), G.add h.length w.heap.size, _, _, by simp [Instr.range, run_underlying ht, newObj, run_getObj_map _ _ _ _ k2, Sem.run], hI.add_le _,
          hI.alloc _ (.iter (some m) clk []) ⟨w.heap.size, some b, Gh.add_same _ _ _, heap_alloc_new w _, b, rfl, (hI.add_le _).ρ _ _ k1⟩, .ptr (Gh.add_same _ _ _), H⟩
    · exact H.elim
  · exact H.elim

def aNxt (it : AV) (h : AH) (K : AV → AH → Prop) : Prop := match it with
  | .ptr (some (i, 0)) => (match h[i]? with
    | some (.iter none _ _) => K (.tuple [.bool false]) h
    | some (.iter (some m) clk seen) => (match h[m]? with
      | some (.map ents clk') => clk' = clk ∧ (∀ e ∈ ents, e.1 < clk) ∧ ((∀ e ∈ ents, e.1 ∈ seen) → K (.tuple [.bool false]) h) ∧ ∀ e ∈ ents, e.1 ∉ seen → K (.tuple [.bool true, e.2.1, e.2.2]) (h.set i (.iter (some m) clk (seen ++ [e.1])))
      | _ => False)
    | _ => False)
  | _ => False
theorem VR.tup1 {x : AV} {u : Value} (hx : VR G x u) : VR G (.tuple [x]) (.tuple #[u]) := .tuple rfl (fun j c e => by
  cases j with
  | zero => simp at e; subst e; exact hx
  | succ j => simp at e)
theorem VR.tup2 {x y : AV} {u v : Value} (hx : VR G x u) (hy : VR G y v) : VR G (.tuple [x, y]) (.tuple #[u, v]) := .tuple rfl (fun j c e => by
  match j with
  | 0 => simp at e; subst e; exact hx
  | 1 => simp at e; subst e; exact hy
  | j + 2 => simp at e)
theorem VR.tup3 {x y z : AV} {u v r : Value} (hx : VR G x u) (hy : VR G y v) (hz : VR G z r) : VR G (.tuple [x, y, z]) (.tuple #[u, v, r]) := .tuple rfl (fun j c e => by
  match j with
  | 0 => simp at e; subst e; exact hx
  | 1 => simp at e; subst e; exact hy
  | 2 => simp at e; subst e; exact hz
  | j + 3 => simp at e)
theorem Inv.setIter (hI : Inv Γ G h w) {i b : Nat} (hb : G.ρ i = some b) {m0 : Option Nat} {s0 c0 : Nat} {q0 : Array Nat} (hw : w.heap[b]? = some (.mapIter m0 s0 q0 c0)) {m : Option Nat} {clk : Nat} {seen : List Nat} {mb : Option Nat}
    (hm : match m with
      | none => mb = none
      | some j => ∃ c, mb = some c ∧ G.ρ j = some c) (hfz : h[i]? ≠ some .frozen) : Inv Γ G (h.set i (.iter m clk seen)) (w.putObj b (.mapIter mb clk seen.toArray clk)) := by
  have hlt := lt_of_heap hw
  have hnew : (w.putObj b (.mapIter mb clk seen.toArray clk)).heap[b]? = some (.mapIter mb clk seen.toArray clk) := by simp [World.putObj, hlt]
  refine hI.write (w' := w.putObj b (.mapIter mb clk seen.toArray clk)) hb (by simp [World.putObj]) rfl rfl rfl (fun k hk => World.putObj_heap_other hk) _ ⟨b, mb, hb, hnew, hm⟩ (fun D hD => ?_) (by rw [hw]; simp) hfz
  obtain ⟨l, e1, _⟩ := hI.lp b D hD
  rw [hw] at e1; cases e1
theorem next_ok (hI : Inv Γ G h w) {it : AV} {u : Value} {ty : TypeId} (hx : VR G it u) {K : AV → AH → Prop} (H : aNxt it h K) : SemOK P Γ G w (Instr.next u false ty) K := by
  unfold aNxt at H
  split at H
  · rename_i i
    cases hx with
    | ptr hb =>
    rename_i r
    split at H
    · rename_i clk seen hi
      obtain ⟨b, mb, k1, k2, k3⟩ := hI.obj i _ hi
      rw [k1] at hb; cases hb
      simp only at k3
      subst k3
      exact .pure' hI (by simp [Instr.next, getObj, Sem.run, k2]) (VR.tup1 (.bool false)) H
    · rename_i m clk seen hi
      obtain ⟨b, mb, k1, k2, k3⟩ := hI.obj i _ hi
      rw [k1] at hb; cases hb
      obtain ⟨bm, rfl, k4⟩ := k3
      split at H
      · rename_i ents clk' hm
        obtain ⟨rfl, hold, H0, H1⟩ := H
        obtain ⟨bm', es, m1, m2, m3, m4⟩ := hI.obj m _ hm
        rw [k4] at m1; cases m1
        have hent : ∀ x ∈ es.toList, ∃ e ∈ ents, e.1 = x.born ∧ VR G e.2.1 x.key ∧ VR G e.2.2 x.val := fun x hx => by
          obtain ⟨j, hj, hjx⟩ := List.mem_iff_getElem.1 hx
          obtain ⟨e, he⟩ : ∃ e, ents[j]? = some e := ⟨_, List.getElem?_eq_getElem (by rw [m3]; simpa using hj)⟩
          obtain ⟨q1, q2, q3⟩ := m4 j e x he (by rw [← hjx]; simp [Array.getElem?_eq_getElem (show j < es.size by simpa using hj)])
          exact ⟨e, List.mem_of_getElem? he, q1.symm, q2, q3⟩
        have hent' : ∀ e ∈ ents, ∃ x ∈ es.toList, x.born = e.1 := fun e he => by
          obtain ⟨j, hj⟩ := List.mem_iff_getElem?.1 he
          have hjl := (List.getElem?_eq_some_iff.1 hj).1
          exact ⟨es[j], by simp, (m4 j e _ hj (Array.getElem?_eq_getElem (by omega))).1⟩
        have hmem : ∀ x, x ∈ (leftOf es seen.toArray).toList ↔ x ∈ es.toList ∧ x.born ∉ seen := fun x => by simp [leftOf]
        rcases run_next_at (P := P) w ty _ bm clk' clk' seen.toArray es clk' k2 m2 (fun x hx => by obtain ⟨e, he, q1, _⟩ := hent x hx; rw [← q1]; exact hold e he) (Nat.le_refl _) with ⟨hs, hrun⟩ | ⟨x, hx, w1, hw1, hrun⟩
        · refine .pure' hI hrun (VR.tup1 (.bool false)) (H0 fun e he => ?_)
          obtain ⟨x, hx, q1⟩ := hent' e he
          refine Classical.byContradiction fun hn => ?_
          have : x ∈ (leftOf es seen.toArray).toList := (hmem x).2 ⟨hx, by rw [q1]; exact hn⟩
          rw [show leftOf es seen.toArray = #[] from Array.eq_empty_of_size_eq_zero hs] at this
          cases this
        · obtain ⟨x1, x2⟩ := (hmem x).1 hx
          obtain ⟨e, he, q1, q2, q3⟩ := hent x x1
          have hI1 : Inv Γ G h w1 := by rcases hw1 with rfl | rfl <;> first | exact hI | exact hI.drew
          have k2' : w1.heap[r]? = some (Obj.mapIter (some bm) clk' seen.toArray clk') := by rcases hw1 with rfl | rfl <;> exact k2
          have hI2 := hI1.setIter k1 k2' (m := some m) (clk := clk') (seen := seen ++ [e.1]) (mb := some bm) ⟨bm, rfl, k4⟩ (by rw [hi]; simp)
          refine ⟨_, _, G, _, _, hrun, Gh.le.refl G, ?_, VR.tup3 (.bool true) q2 q3, H1 e he (by rw [q1]; exact x2)⟩
          have : (seen ++ [e.1]).toArray = seen.toArray.push x.born := by rw [q1]; simp
          rw [this] at hI2
          exact hI2
      · exact H.elim
    · exact H.elim
  · exact H.elim

def aEntry (it : AV) (h : AH) (K : AV → Prop) : Prop := match it with
  | .ptr (some (i, 0)) => (match h[i]? with
    | some (.iter (some m) clk seen) => (match h[m]?, seen.getLast? with
      | some (.map ents clk'), some s => clk' = clk ∧ (match ents.find? (·.1 == s) with
        | some e => K (.tuple [e.2.1, e.2.2])
        | none => False)
      | _, _ => False)
    | _ => False)
  | _ => False
theorem find_ents : ∀ (ents : List (Nat × AV × AV)) (es : List MapEntry), ents.length = es.length → (∀ (j : Nat) (e : Nat × AV × AV) (x : MapEntry), ents[j]? = some e → es[j]? = some x → x.born = e.1 ∧ VR G e.2.1 x.key ∧ VR G e.2.2 x.val) →
    ∀ {s : Nat} {e : Nat × AV × AV}, ents.find? (·.1 == s) = some e → ∃ x, es.find? (·.born == s) = some x ∧ VR G e.2.1 x.key ∧ VR G e.2.2 x.val
  | [], _, _, _, _, _, h => by simp at h
  | a :: ents, [], hl, _, _, _, _ => by simp at hl
  | a :: ents, y :: es, hl, hv, s, e, h => by
    obtain ⟨h1, h2, h3⟩ := hv 0 a y rfl rfl
    rw [List.find?_cons] at h ⊢
    rw [h1]
    split at h
    · rename_i hs
      cases h
      exact ⟨y, rfl, h2, h3⟩
    · exact find_ents ents es (by simpa using hl) (fun j e x he hx => hv (j + 1) e x (by simpa using he) (by simpa using hx)) h
theorem entry_ok (hI : Inv Γ G h w) {it : AV} {u : Value} (hx : VR G it u) {K : AV → AH → Prop} (H : aEntry it h fun v => K v h) : SemOK P Γ G w (Instr.entry u) K := by
  unfold aEntry at H
  split at H
  · rename_i i
    cases hx with
    | ptr hb =>
    split at H
    · rename_i m clk seen hi
      obtain ⟨b, mb, k1, k2, k3⟩ := hI.obj i _ hi
      rw [k1] at hb; cases hb
      obtain ⟨bm, rfl, k4⟩ := k3
      split at H
      · rename_i ents clk' s hm hs
        obtain ⟨rfl, H⟩ := H
        obtain ⟨bm', es, m1, m2, m3, m4⟩ := hI.obj m _ hm
        rw [k4] at m1; cases m1
        split at H
        · rename_i e he
          obtain ⟨x, q1, q2, q3⟩ := find_ents (G := G) ents es.toList (by simpa using m3) (fun j e x he hx => m4 j e x he (by simpa using hx)) he
          rw [Array.find?_toList] at q1
          have hbk : seen.toArray.back? = some s := by simpa using hs
          refine .pure' hI ?_ (VR.tup2 q2 q3) H
          simp only [Instr.entry, getObj, Sem.run_bind, Sem.run, k2, m2, Result.andThen, hbk, bne_self_eq_false, Bool.false_eq_true, if_false, q1]
          rfl
        · exact H.elim
      · exact H.elim
    · exact H.elim
  · exact H.elim

/-! ### A byte of a text -/
def aIndex (P : Program) (t : TypeId) (x i : AV) (K : AV → Prop) : Prop :=
  match P.underlying t, x, i with
  | some .string, .str s, .int _ n => 0 ≤ n ∧ ∃ b, s[n.toNat]? = some b ∧ K (.int .u8 b.toNat)
  | _, _, _ => False
theorem index_ok (hI : Inv Γ G h w) {t : TypeId} {x i : AV} {u v : Value} (hx : VR G x u) (hi : VR G i v) {K : AV → AH → Prop} (H : aIndex P t x i fun v => K v h) : SemOK P Γ G w (Instr.index t u v) K := by
  unfold aIndex at H
  split at H
  · rename_i s k n ht
    obtain ⟨h1, b, h2, H⟩ := H
    cases hx; cases hi
    exact .pure' hI (by simp [Instr.index, run_underlying ht, asIntOf, h1, h2]) (.int _ _) H
  · exact H.elim

/-! ### Is a slice nil -/
def isNilC : Operand → Bool
  | .const (.slice none 0 0) => true
  | _ => false
def aNilC (P : Program) (t : TypeId) (op : BinOp) (x : AV) (K : AV → Prop) : Prop :=
  match P.underlying t, op, x with
  | some (.slice _), .eql, .sl rows _ => (rows = [] → K (.bool true)) ∧ K (.bool false)
  | some (.slice _), .neq, .sl rows _ => (rows = [] → K (.bool false)) ∧ K (.bool true)
  | some (.slice _), .eql, .ms .. => K (.bool false)
  | some (.slice _), .neq, .ms .. => K (.bool true)
  | _, _, _ => False
theorem eqGuard_sl {op : BinOp} {t : TypeId} {ox oy : Operand} {a : Option Addr} {n c : Nat} {v : Value} {e : TypeId} (ht : P.underlying t = some (.slice e)) : (eqGuard op t ox oy (.slice a n c) v).run P w = .ok () w := by
  cases op <;> simp [eqGuard]
theorem equalIn_nil (d : Nat) {t e : TypeId} {a : Option Addr} {n c : Nat} (ht : P.underlying t = some (.slice e)) (w : World) : (Op.equalIn (d + 1) t (.slice a n c) (.slice none 0 0)).run P w = .ok a.isNone w := by
  cases a <;> simp only [Op.equalIn, Sem.run_bind, run_underlying ht, Result.andThen_ok, Sem.run_pure, Option.isNone]
theorem nilC_ok (hI : Inv Γ G h w) {op : BinOp} {t : TypeId} {ox oy : Operand} {x : AV} {u : Value} (hx : VR G x u) {K : AV → AH → Prop} (H : aNilC P t op x fun v => K v h) :
    SemOK P Γ G w (do eqGuard op t ox oy u (.slice none 0 0); binOp op t u (.slice none 0 0)) K := by
  have he : ∀ (a : Option Addr) (n c : Nat) (e : TypeId), P.underlying t = some (.slice e) → (Op.equal t (.slice a n c) (.slice none 0 0)).run P w = .ok a.isNone w := fun a n c e ht => by
    rw [equal_depth]
    exact equalIn_nil 9999 ht w
  have key : ∀ (a : Option Addr) (n c : Nat) (e : TypeId), P.underlying t = some (.slice e) → (op = .eql ∨ op = .neq) →
      (do eqGuard op t ox oy (.slice a n c) (.slice none 0 0); binOp op t (.slice a n c) (.slice none 0 0) : Sem Value).run P w = .ok (.bool (if op = .eql then a.isNone else !a.isNone)) w := fun a n c e ht ho => by
    rcases ho with rfl | rfl <;> simp [eqGuard_sl (P := P) (w := w) ht, binOp, he a n c e ht]
  unfold aNilC at H
  split at H
  · rename_i e rows own ht
    cases hx with
    | sl vals hcap hnil hsz hF hv hown =>
      rename_i a cap sz
      cases a with
      | none =>
        have hr : rows = [] := List.eq_nil_of_length_eq_zero (by have := hnil rfl; omega)
        exact .pure' hI (key none _ _ e ht (.inl rfl)) (.bool true) (H.1 hr)
      | some a => exact .pure' hI (key (some a) _ _ e ht (.inl rfl)) (.bool false) H.2
  · rename_i e rows own ht
    cases hx with
    | sl vals hcap hnil hsz hF hv hown =>
      rename_i a cap sz
      cases a with
      | none =>
        have hr : rows = [] := List.eq_nil_of_length_eq_zero (by have := hnil rfl; omega)
        exact .pure' hI (key none _ _ e ht (.inr rfl)) (.bool false) (H.1 hr)
      | some a => exact .pure' hI (key (some a) _ _ e ht (.inr rfl)) (.bool true) H.2
  · rename_i e _ _ _ _ _ ht
    cases hx with
    | ms hb => exact .pure' hI (key _ _ _ e ht (.inl rfl)) (.bool false) H
  · rename_i e _ _ _ _ _ ht
    cases hx with
    | ms hb => exact .pure' hI (key _ _ _ e ht (.inr rfl)) (.bool true) H
  · exact H.elim

/-! ### Appending to arrays of one's own; literals as arrays of one's own -/
def aAppendM (P : Program) (t u : TypeId) (s x : AV) (h : AH) (K : AV → AH → Prop) : Prop :=
  match P.underlying t, P.underlying u with
  | some _, some (.int _) => False
  | some (.slice e), some _ => (match tsz P e, tbytes P e, tzero P e with
    | some n, some by_, some z => n ≠ 0 ∧ z.cells.size = n ∧ ∃ xs, SrcIs x h xs ∧ RowsOK n xs ∧
        (match s with
         | .sl [] .full => xs.length ≤ 9223372036854775807 ∧ xs.length * by_ ≤ 140737488355328 ∧ (xs = [] → K s h) ∧ (xs ≠ [] → ∀ c, xs.length ≤ c → K (.ms h.length 0 xs.length c n) (h ++ [.row (flat xs ++ List.replicate ((c - xs.length) * n) .top) e]))
         | .ms i off len cap sz => sz = n ∧ len + xs.length ≤ 9223372036854775807 ∧ (len + xs.length) * by_ ≤ 140737488355328 ∧ len ≤ cap ∧ (match h[i]? with
           | some (.row cs T) => off + cap * n ≤ cs.length ∧ (len + xs.length ≤ cap → K (.ms i off (len + xs.length) cap n) (h.set i (.row (splice cs (off + len * n) (flat xs)) T))) ∧
              (cap < len + xs.length → ∀ c, len + xs.length ≤ c → K (.ms h.length 0 (len + xs.length) c n) (h ++ [.row ((cs.drop off).take (len * n) ++ flat xs ++ List.replicate ((c - (len + xs.length)) * n) .top) e]))
           | _ => False)
         | _ => False)
    | _, _, _ => False)
  | _, _ => False
theorem VRs.tops (G : Gh) (a : Array Value) {k : Nat} (hk : a.size = k) : VRs G (List.replicate k .top) a := ⟨by simp [hk], fun j c e => by
  rw [List.getElem?_replicate] at e
  split at e
  · cases e; exact .top _
  · cases e⟩
theorem appendM_ok (hI : Inv Γ G h w) {t u ty : TypeId} {s x : AV} {vs vx : Value} (hs : VR G s vs) (hx : VR G x vx) {K : AV → AH → Prop} (H : aAppendM P t u s x h K) :
    SemOK P Γ G w (Builtin.append_ #[t, u] ty #[vs, vx]) K := by
  unfold aAppendM at H
  split at H
  · exact H.elim
  · rename_i e d hd ht hu
    split at H
    · rename_i n by_ z hn hb hz
      obtain ⟨h0, hzn, xs, hsrc, hxok, H⟩ := H
      obtain ⟨news, q1, q2, q3, q4⟩ := src_ok (P := P) hI hx hsrc h0 hxok
      have hfl : (flat xs).length = xs.length * n := flat_length (fun r hr => (hxok r hr).1)
      have hnone : ∀ v ∈ news, v.oneCell' = true := by
        have := q2.oneCells (fun c hc => by
          simp only [flat, List.mem_flatMap] at hc
          obtain ⟨r, hr, hc⟩ := hc
          exact (hxok r hr).2 c hc)
        simpa using this
      split at H
      · obtain ⟨h63, hby, H0, H1⟩ := H
        cases hs with
        | sl vals hcap hnil hsz hF hv hown =>
          rename_i base cap sz
          have hc0 : cap = 0 := hown
          subst hc0
          by_cases hm : xs = []
          · subst hm
            have hnews : news = [] := List.eq_nil_of_length_eq_zero (by simpa using q1)
            subst hnews
            have hr := run_append_fits (P := P) (w := w) (ty := ty) ht hu (fun k e => hd k e) hn (base := base) (sLen := 0) (sCap := 0) (m := 0) (x := vx) (news := []) q3 (q4 w rfl) (by omega) (w' := w) (fun a _ => by simp [storeCells]) (fun _ => rfl)
            exact ⟨_, w, G, _, h, hr, Gh.le.refl G, hI, .sl vals hcap hnil hsz hF hv hown, H0 rfl⟩
          · have hpos : 0 < xs.length := List.length_pos_iff.2 hm
            have hr := run_append_moves (P := P) (w := w) (ty := ty) ht hu (fun k e => hd k e) hn hb hz (base := base) (sLen := 0) (sCap := 0) (m := xs.length) (x := vx) (olds := []) q3 (by cases base <;> simp [Builtin.firstCells, loadCells, loadCellsFrom]) (q4 w.drew rfl) (by omega) (by omega) (by simpa using hby)
            have hge := grownCap_ge w (0 + xs.length) 0 e
            generalize grownCap w (0 + xs.length) 0 e = nc at hr hge
            simp only [Nat.zero_add] at hr hge
            refine ⟨_, _, _, _, _, hr, ?_, newVar_ok hI.drew (t := e) (cs := flat xs ++ List.replicate ((nc - xs.length) * n) .top) ?_, .ms ?_, H1 hm nc hge⟩
            · exact hI.drew.add_le _
            · have := q2.append (VRs.tops G (Builtin.zeroCells z.cells (nc - xs.length)) (k := (nc - xs.length) * n) (by rw [size_zeroCells, hzn]))
              simpa using this
            · exact Gh.add_same _ _ _
      · rename_i i off len cap sz
        obtain ⟨rfl, h63, hby, hlc, H⟩ := H
        split at H
        · rename_i cs T hrow
          obtain ⟨hfit, H0, H1⟩ := H
          obtain ⟨b, vals, h1, h2, h3⟩ := hI.row hrow
          cases hs with
          | ms hb' =>
            rw [h1] at hb'; cases hb'
            by_cases hg : len + xs.length ≤ cap
            · have hroom : off + len * sz + (flat xs).length ≤ cs.length := by
                rw [hfl, Nat.add_assoc, ← Nat.add_mul]
                exact Nat.le_trans (Nat.add_le_add_left (Nat.mul_le_mul_right _ hg) _) hfit
              have hnl : off + len * sz + 0 + news.length ≤ vals.toList.length := by
                have h31 := h3.1
                have h32 : vals.toList.length = vals.size := Array.length_toList
                rw [h32, q1, ← hfl]; omega
              have hst := run_storeCells_at P b (off + len * sz) T news 0 vals w h2 hnl hnone
              simp only [Nat.add_zero] at hst
              have hr := run_append_fits (P := P) (w := w) (ty := ty) ht hu (fun k e => hd k e) hn (base := some ⟨b, off, none⟩) (sLen := len) (sCap := cap) (m := xs.length) (x := vx) q3 (q4 w rfl) hg (fun a ea => by cases ea; rw [Addr.add_lit]; exact hst) (fun e => by cases e)
              exact ⟨_, _, G, _, _, hr, Gh.le.refl G, hI.putRow hrow hroom (news := news) q2 h1 h2 h3, .ms h1, H0 hg⟩
            · have hlen : off + len * sz ≤ cs.length := Nat.le_trans (Nat.add_le_add_left (Nat.mul_le_mul_right _ hlc) _) hfit
              have hA := (At.of_row h2 h3).drop off
              have hold : (Builtin.firstCells sz len (.slice (some ⟨b, off, none⟩) len cap)).run P w.drew = .ok ((List.range (len * sz)).map fun q => (w.cell? ⟨b, off + q, none⟩).getD undef).toArray w.drew := by
                have hr' := run_loadCells (P := P) w.drew ⟨b, off, none⟩ (len * sz) (fun q => (w.cell? ⟨b, off + q, none⟩).getD undef) (fun q hq => by
                  obtain ⟨u, q1, q2⟩ := hA q _ (List.getElem?_eq_getElem (show q < (cs.drop off).length by rw [List.length_drop]; omega))
                  rw [Nat.zero_add] at q1
                  rw [Addr.add_lit, cell_eq (w := w) (by rfl), q1]; rfl)
                simpa [Builtin.firstCells] using hr'
              have holdV : VRs G ((cs.drop off).take (len * sz)) ((List.range (len * sz)).map fun q => (w.cell? ⟨b, off + q, none⟩).getD undef).toArray := by
                refine VRs.of_get (by simp; omega) fun j c v e e' => ?_
                rw [List.getElem?_take] at e
                split at e
                · rename_i hj
                  obtain ⟨u, q1, q2⟩ := hA j c e
                  rw [Nat.zero_add] at q1
                  simp [hj, q1] at e'
                  subst e'; exact q2
                · cases e
              have hr := run_append_moves (P := P) (w := w) (ty := ty) ht hu (fun k e => hd k e) hn hb hz (base := some ⟨b, off, none⟩) (sLen := len) (sCap := cap) (m := xs.length) (x := vx) q3 hold (q4 w.drew rfl) (by omega) h63 hby
              have hge := grownCap_ge w (len + xs.length) cap e
              generalize grownCap w (len + xs.length) cap e = nc at hr hge
              refine ⟨_, _, _, _, _, hr, hI.drew.add_le _, newVar_ok hI.drew (t := e) (cs := (cs.drop off).take (len * sz) ++ flat xs ++ List.replicate ((nc - (len + xs.length)) * sz) .top) ?_, .ms (Gh.add_same _ _ _), H1 (by omega) nc hge⟩
              exact (holdV.append q2).append (VRs.tops G (Builtin.zeroCells z.cells (nc - (len + xs.length))) (k := (nc - (len + xs.length)) * sz) (by rw [size_zeroCells, hzn]))
        · exact H.elim
      · exact H.elim
    · exact H.elim
  · exact H.elim

/-- A literal as an array of one's own. -/
def aBuildSliceM (P : Program) (t : TypeId) (len : Nat) (parts : List (Nat × AV)) (h : AH) (K : AV → AH → Prop) : Prop :=
  match P.underlying t with
  | some (.slice e) => (match tsz P e, tzero P e with
    | some n, some z => n ≠ 0 ∧ z.cells.size = n ∧ len * n ≤ 16777216 ∧ parts.map (·.1) = List.range len ∧ (∀ p ∈ parts, p.2.cells.length = n ∧ (p.2.one = true ∨ ∃ cs, p.2 = .agg cs)) ∧ K (.ms h.length 0 len len n) (h ++ [.row (flat (parts.map (·.2))) e])
    | _, _ => False)
  | _ => False
theorem buildSliceM_ok (hI : Inv Γ G h w) {t : TypeId} {len : Nat} {parts : Array (Nat × Operand)} {a : Act} (ht : TR N G σ a.tmps) {K : AV → AH → Prop} (H : aBuildSliceM P t len (evParts Γ σ parts) h K) :
    SemOK P Γ G w (Instr.buildSlice t len (parts.map fun (i, x) => (i, a.eval x))) K := by
  have hlen : (evParts Γ σ parts).length = (parts.map fun (i, x) => (i, a.eval x)).toList.length := by simp [evParts]
  have hrel : ∀ (j : Nat) (p : Nat × AV) (q : Nat × Value), (evParts Γ σ parts)[j]? = some p → (parts.map fun (i, x) => (i, a.eval x)).toList[j]? = some q → p.1 = q.1 ∧ VR G p.2 q.2 := fun j p q e1 e2 => by
    simp only [evParts, List.getElem?_map, Option.map_eq_some_iff, Array.toList_map] at e1 e2
    obtain ⟨⟨i, x⟩, h1, rfl⟩ := e1
    obtain ⟨⟨i', x'⟩, h2, rfl⟩ := e2
    rw [h1] at h2; cases h2
    exact ⟨rfl, ev_VR hI ht x⟩
  unfold aBuildSliceM at H
  split at H
  · rename_i e hd
    split at H
    · rename_i n z hn hz
      obtain ⟨h0, hzs, hmost, hidx, hcs, hk⟩ := H
      generalize hps : evParts Γ σ parts = ps at hlen hrel hidx hcs hk
      have hpl : ps.length = len := by have := congrArg List.length hidx; simpa using this
      have hp : ∀ k p, ps[k]? = some p → p.1 = 0 + k := fun k p e => by
        have : (ps.map (·.1))[k]? = some p.1 := by rw [List.getElem?_map, e]; rfl
        rw [hidx, List.getElem?_range (by have := (List.getElem?_eq_some_iff.1 e).1; omega)] at this
        cases this; omega
      obtain ⟨out, vals', f1, f2, f3⟩ := fill_ok (G := G) ps (parts.map fun (i, x) => (i, a.eval x)).toList (((Array.range (len * n)).map (z.cells[· % z.cells.size]!)).toList.map fun _ => AV.top)
        ((Array.range (len * n)).map (z.cells[· % z.cells.size]!)) ⟨by simp, fun j c e => by
          simp only [List.getElem?_map, Option.map_eq_some_iff] at e
          obtain ⟨_, _, rfl⟩ := e
          exact .top _⟩ hlen hrel
        (aFill_rows ps 0 _ hp hcs (by simp [hpl]) (k := fun out => out.length = len * n ∧ ∀ j p, ps[j]? = some p → ∀ q, q < n → out[j * n + q]? = p.2.cells[q]?) (fun out h1 _ h3 => ⟨by simpa using h1, fun j p e q hq => by have := h3 j p e q hq; rwa [Nat.zero_add] at this⟩))
      have hrl : ∀ r ∈ ps.map (·.2), r.cells.length = n := fun r hr => by obtain ⟨p, hpm, rfl⟩ := List.mem_map.1 hr; exact (hcs p hpm).1
      have hmp : (ps.map (·.2)).length = len := by simp [hpl]
      have hvl : vals'.size = len * n := by rw [← f2.1]; exact f3.1
      have hV : VRs G (flat (ps.map (·.2))) vals' := ⟨by rw [flat_length hrl, hmp, hvl], fun q c e => by
        have hq := (List.getElem?_eq_some_iff.1 e).1
        rw [flat_length hrl, hmp] at hq
        have hk' : q / n < len := Nat.div_lt_of_lt_mul (by rw [Nat.mul_comm]; exact hq)
        have hj : q % n < n := Nat.mod_lt _ (by omega)
        have hqq : q / n * n + q % n = q := by rw [Nat.mul_comm]; exact Nat.div_add_mod q n
        obtain ⟨p, hpk⟩ : ∃ p, ps[q / n]? = some p := ⟨_, List.getElem?_eq_getElem (by omega)⟩
        have hpm : (ps.map (·.2))[q / n]? = some p.2 := by rw [List.getElem?_map, hpk]; rfl
        have h1 := flat_get hrl _ _ _ hpm hj
        rw [hqq, e] at h1
        have h2 := f3.2 _ p hpk _ hj
        rw [hqq, ← h1] at h2
        exact f2.2 q c h2⟩
      refine ⟨.slice (some ⟨w.heap.size, 0, none⟩) len len, w.alloc (.cells vals' e), _, _, _, ?_, hI.add_le _, newVar_ok hI (t := e) hV, .ms (Gh.add_same _ _ _), hk⟩
      have hf1 : Instr.fill (fun i => some (i * n, n)) ((Array.range (len * n)).map (z.cells[· % z.cells.size]!)) (parts.map fun (i, x) => (i, a.eval x)).toList = some vals' := f1
      simp only [Instr.buildSlice, Sem.run_bind, run_underlying hd, Result.andThen_ok, run_sizeOf' hn]
      rw [if_neg (by omega)]
      by_cases hl0 : len * n = 0
      · have hl : len = 0 := by rcases Nat.mul_eq_zero.1 hl0 with h | h <;> omega
        subst hl
        simp only [Nat.zero_mul, if_true, Sem.run_pure, Result.andThen_ok, Sem.run_bind] at hf1 ⊢
        have : ((Array.range 0).map fun x => (#[] : Array Value)[x % (#[] : Array Value).size]!) = ((Array.range 0).map (z.cells[· % z.cells.size]!)) := by simp
        rw [this, hf1]
        simp [newRow]
      · rw [if_neg hl0]
        simp only [Sem.run_bind, Sem.run_pure, run_zero' hz, Result.andThen_ok, hf1]
        simp [newRow]
    · exact H.elim
  · exact H.elim
end
end Go.Abs
