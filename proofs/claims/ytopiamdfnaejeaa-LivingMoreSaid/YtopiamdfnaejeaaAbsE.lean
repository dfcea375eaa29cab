/- Slices, seen abstractly: literals, cuts, append. It says nothing of any program; no conditions. -/
import Derived.Test.YtopiamdfnaejeaaAbsD
set_option linter.unusedSimpArgs false
set_option linter.unusedVariables false
namespace Go.Abs
open Go Go.RowKit

/-- Elements of n cells each, all of them storable. -/
def RowsOK (n : Nat) (rows : List AV) : Prop := ∀ r ∈ rows, r.cells.length = n ∧ ∀ c ∈ r.cells, c.one = true

theorem RowsOK.nil (n : Nat) : RowsOK n [] := fun r h => by simp at h
theorem RowsOK.append {n : Nat} {a b : List AV} (h : RowsOK n a) (k : RowsOK n b) : RowsOK n (a ++ b) := fun r hr => (List.mem_append.1 hr).elim (h r) (k r)
theorem RowsOK.cons {n : Nat} {a : AV} {b : List AV} (h1 : a.cells.length = n) (h2 : ∀ c ∈ a.cells, c.one = true) (k : RowsOK n b) : RowsOK n (a :: b) := fun r hr => by
  rcases List.mem_cons.1 hr with rfl | hr
  · exact ⟨h1, h2⟩
  · exact k r hr
theorem RowsOK.take {n : Nat} {a : List AV} (h : RowsOK n a) (k : Nat) : RowsOK n (a.take k) := fun r hr => h r (List.mem_of_mem_take hr)
theorem RowsOK.drop {n : Nat} {a : List AV} (h : RowsOK n a) (k : Nat) : RowsOK n (a.drop k) := fun r hr => h r (List.mem_of_mem_drop hr)
theorem RowsOK.map {α : Type} {n : Nat} {f : α → AV} (hf : ∀ x, (f x).cells.length = n ∧ ∀ c ∈ (f x).cells, c.one = true) (l : List α) : RowsOK n (l.map f) := fun r hr => by
  obtain ⟨x, _, rfl⟩ := List.mem_map.1 hr
  exact hf x
theorem RowsOK.int {k : IntKind} (l : List Int) : RowsOK 1 (l.map (AV.int k)) := RowsOK.map (f := AV.int k) (fun _ => ⟨rfl, fun c hc => by simp [AV.cells] at hc; subst hc; rfl⟩) l
theorem RowsOK.bool (l : List Bool) : RowsOK 1 (l.map AV.bool) := RowsOK.map (f := AV.bool) (fun _ => ⟨rfl, fun c hc => by simp [AV.cells] at hc; subst hc; rfl⟩) l

/-- All cells of some elements, in order. -/
def flat (rows : List AV) : List AV := rows.flatMap AV.cells

theorem flat_nil : flat [] = [] := rfl
theorem flat_cons (r : AV) (rows : List AV) : flat (r :: rows) = r.cells ++ flat rows := by simp [flat]
theorem flat_append (a b : List AV) : flat (a ++ b) = flat a ++ flat b := by simp [flat]
theorem flat_length {n : Nat} : ∀ {rows : List AV}, (∀ r ∈ rows, r.cells.length = n) → (flat rows).length = rows.length * n
  | [], _ => by simp [flat]
  | r :: rows, h => by
    rw [flat_cons, List.length_append, h r (by simp), flat_length (fun x hx => h x (by simp [hx])), List.length_cons, Nat.add_mul, Nat.one_mul, Nat.add_comm]
theorem flat_get {n : Nat} : ∀ {rows : List AV}, (∀ r ∈ rows, r.cells.length = n) → ∀ (k : Nat) (r : AV) (j : Nat), rows[k]? = some r → j < n → (flat rows)[k * n + j]? = r.cells[j]?
  | [], _, k, r, j, e, _ => by simp at e
  | r0 :: rows, h, k, r, j, e, hj => by
    have h0 := h r0 (by simp)
    rw [flat_cons]
    cases k with
    | zero =>
      simp at e; subst e
      rw [Nat.zero_mul, Nat.zero_add, List.getElem?_append_left (by omega)]
    | succ k =>
      simp at e
      rw [List.getElem?_append_right (by rw [h0, Nat.add_mul]; omega), h0, Nat.add_mul, Nat.one_mul, show k * n + n + j - n = k * n + j from by omega]
      exact flat_get (fun x hx => h x (by simp [hx])) k r j e hj

theorem idx_lt {k n j m : Nat} (hk : k < m) (hj : j < n) : k * n + j < m * n := by
  have : (k + 1) * n ≤ m * n := Nat.mul_le_mul_right n hk
  rw [Nat.add_mul, Nat.one_mul] at this
  omega

section
variable {P : Program} {Γ : Nat → Option (List AV)} {G : Gh} {h : AH} {w : World} {N : Nat} {σ : Tm}

/-- The cells behind a slice that is a list. -/
theorem VR.flatCells (hI : Inv Γ G h w) {rows : List AV} {own : Own} {a : Option Addr} {len cap n : Nat} (hv : VR G (.sl rows own) (.slice a len cap)) (hr : ∀ r ∈ rows, r.cells.length = n) :
    ∃ olds : List Value, olds.length = rows.length * n ∧ VRs G (flat rows) olds.toArray ∧
      ∀ w' : World, w'.heap = w.heap → (Builtin.firstCells n rows.length (.slice a len cap)).run P w' = .ok olds.toArray w' := by
  cases hv with
  | sl vals hcap hnil hsz hF hv hown =>
    rename_i sz
    by_cases he : rows = []
    · subst he
      refine ⟨[], by simp, VRs.nil G, fun w' _ => ?_⟩
      cases a <;> simp [Builtin.firstCells, loadCells, loadCellsFrom]
    · have hlen : 0 < rows.length := List.length_pos_iff.2 he
      obtain ⟨r0, hr0⟩ : ∃ r0, rows[0]? = some r0 := ⟨_, List.getElem?_eq_getElem hlen⟩
      have hs : sz = n := (hsz 0 r0 hr0).symm.trans (hr r0 (List.mem_of_getElem? hr0))
      subst hs
      cases ha : a with
      | none => have := hnil ha; omega
      | some ad =>
        obtain ⟨ab, ao, asp⟩ := ad
        have hfl := flat_length hr
        by_cases hz : sz = 0
        · subst hz
          refine ⟨[], by simp, ⟨by simp [hfl], fun j c e => by have := (List.getElem?_eq_some_iff.1 e).1; omega⟩, fun w' _ => ?_⟩
          simp [Builtin.firstCells, loadCells, loadCellsFrom]
        · have hsp : asp = none := by
            obtain ⟨c, hc⟩ : ∃ c, r0.cells[0]? = some c := ⟨_, List.getElem?_eq_getElem (by rw [hr r0 (List.mem_of_getElem? hr0)]; omega)⟩
            obtain ⟨b, o, e1, _⟩ := hF 0 r0 0 c hr0 hc
            rw [ha] at e1; cases e1; rfl
          subst hsp
          have hcell : ∀ q, q < rows.length * sz → ∃ c, (flat rows)[q]? = some c ∧ w.cell? ⟨ab, ao + q, none⟩ = some (vals (q / sz) (q % sz)) ∧ VR G c (vals (q / sz) (q % sz)) := fun q hq => by
            have hk : q / sz < rows.length := Nat.div_lt_of_lt_mul (by rw [Nat.mul_comm]; exact hq)
            have hj : q % sz < sz := Nat.mod_lt _ (by omega)
            obtain ⟨r, hrr⟩ : ∃ r, rows[q / sz]? = some r := ⟨_, List.getElem?_eq_getElem hk⟩
            obtain ⟨c, hc⟩ : ∃ c, r.cells[q % sz]? = some c := ⟨_, List.getElem?_eq_getElem (by rw [hr r (List.mem_of_getElem? hrr)]; exact hj)⟩
            have hqq : q / sz * sz + q % sz = q := by rw [Nat.mul_comm]; exact Nat.div_add_mod q sz
            obtain ⟨b, o, e1, e2⟩ := hF _ r _ c hrr hc
            rw [ha] at e1; cases e1
            refine ⟨c, ?_, ?_, hv _ r _ c hrr hc⟩
            · have := flat_get hr _ r _ hrr hj
              rw [hqq] at this; rw [this]; exact hc
            · rw [show ao + q = ao + q / sz * sz + q % sz from by omega]
              exact hI.fix _ _ _ e2
          refine ⟨(List.range (rows.length * sz)).map fun q => vals (q / sz) (q % sz), by simp, VRs.of_get (by simp [hfl]) fun j c v e e' => ?_, fun w' hw' => ?_⟩
          · have hj : j < rows.length * sz := by have := (List.getElem?_eq_some_iff.1 e).1; omega
            obtain ⟨c', h1, _, h3⟩ := hcell j hj
            rw [h1] at e; cases e
            simp [hj] at e'
            subst e'; exact h3
          · have hr' := run_loadCells (P := P) w' ⟨ab, ao, none⟩ (rows.length * sz) (fun q => vals (q / sz) (q % sz)) (fun q hq => by
              obtain ⟨_, _, h2, _⟩ := hcell q hq
              rw [Addr.add_lit, cell_eq (w := w) (by rw [hw'])]; exact h2)
            simpa [Builtin.firstCells] using hr'

/-- One cell behind a slice that is a list. -/
theorem VR.slF {rows : List AV} {own : Own} {b o len cap n : Nat} (hv : VR G (.sl rows own) (.slice (some ⟨b, o, none⟩) len cap)) (hr : ∀ r ∈ rows, r.cells.length = n) {q : Nat} (hq : q < rows.length * n) :
    ∃ c v, (Abs.flat rows)[q]? = some c ∧ G.F b (o + q) = some v ∧ VR G c v := by
  cases hv with
  | sl vals hcap hnil hsz hF hv hown =>
    have hn : n ≠ 0 := fun e => by subst e; omega
    have hk : q / n < rows.length := Nat.div_lt_of_lt_mul (by rw [Nat.mul_comm]; exact hq)
    have hj : q % n < n := Nat.mod_lt _ (by omega)
    obtain ⟨r, hrr⟩ : ∃ r, rows[q / n]? = some r := ⟨_, List.getElem?_eq_getElem hk⟩
    obtain ⟨c, hc⟩ : ∃ c, r.cells[q % n]? = some c := ⟨_, List.getElem?_eq_getElem (by rw [hr r (List.mem_of_getElem? hrr)]; exact hj)⟩
    have hqq : q / n * n + q % n = q := by rw [Nat.mul_comm]; exact Nat.div_add_mod q n
    have hs := (hsz _ r hrr).symm.trans (hr r (List.mem_of_getElem? hrr))
    subst hs
    obtain ⟨b', o', e1, e2⟩ := hF _ r _ c hrr hc
    cases e1
    refine ⟨c, _, ?_, ?_, hv _ r _ c hrr hc⟩
    · have := flat_get hr _ r _ hrr hj
      rw [hqq] at this; rw [this]; exact hc
    · rw [show o + q = o + q / _ * _ + q % _ from by rw [Nat.add_assoc, hqq]]
      exact e2

/-- A slice over cells that are fixed. -/
theorem VR.sl_of_flat {rows : List AV} {own : Own} {b o cap n : Nat} {vals : Nat → Value} (hr : ∀ r ∈ rows, r.cells.length = n) (hcap : rows.length ≤ cap)
    (hF : ∀ q, q < rows.length * n → G.F b (o + q) = some (vals q)) (hv : ∀ q c, (flat rows)[q]? = some c → VR G c (vals q)) (hown : OwnR G rows (some ⟨b, o, none⟩) cap n own) :
    VR G (.sl rows own) (.slice (some ⟨b, o, none⟩) rows.length cap) := by
  have hlt : ∀ (k : Nat) (r : AV) (j : Nat) (c : AV), rows[k]? = some r → r.cells[j]? = some c → k < rows.length ∧ j < n := fun k r j c e e' => by
    have h1 := (List.getElem?_eq_some_iff.1 e).1
    have h2 := (List.getElem?_eq_some_iff.1 e').1
    rw [hr r (List.mem_of_getElem? e)] at h2
    exact ⟨h1, h2⟩
  refine .sl (sz := n) (fun k j => vals (k * n + j)) hcap (fun e => by cases e) (fun k r e => hr r (List.mem_of_getElem? e)) (fun k r j c e e' => ⟨b, o, rfl, ?_⟩) (fun k r j c e e' => ?_) hown
  · obtain ⟨h1, h2⟩ := hlt k r j c e e'
    rw [Nat.add_assoc]
    exact hF _ (idx_lt h1 h2)
  · obtain ⟨h1, h2⟩ := hlt k r j c e e'
    exact hv _ c (by rw [flat_get hr k r j e h2]; exact e')

/-! ### Literals of slices -/
def aBuildSlice (P : Program) (t : TypeId) (len : Nat) (parts : List (Nat × AV)) (K : AV → Prop) : Prop :=
  match P.underlying t with
  | some (.slice e) => (match tsz P e, tzero P e with
    | some n, some z => n ≠ 0 ∧ z.cells.size = n ∧ len * n ≤ 16777216 ∧ parts.map (·.1) = List.range len ∧ (∀ p ∈ parts, p.2.cells.length = n ∧ (p.2.one = true ∨ ∃ cs, p.2 = .agg cs)) ∧ K (.sl (parts.map (·.2)) .full)
    | _, _ => False)
  | _ => False

theorem aFill_rows {n : Nat} : ∀ (parts : List (Nat × AV)) (i0 : Nat) (cells : List AV), (∀ k p, parts[k]? = some p → p.1 = i0 + k) → (∀ p ∈ parts, p.2.cells.length = n ∧ (p.2.one = true ∨ ∃ cs, p.2 = .agg cs)) →
    (i0 + parts.length) * n ≤ cells.length → ∀ {k : List AV → Prop},
    (∀ out : List AV, out.length = cells.length → (∀ q, q < i0 * n → out[q]? = cells[q]?) → (∀ j p, parts[j]? = some p → ∀ q, q < n → out[(i0 + j) * n + q]? = p.2.cells[q]?) → k out) → aFill (fun i => some (i * n, n)) cells parts k := by
  intro parts
  induction parts with
  | nil => intro i0 cells _ _ _ k hk; exact hk cells rfl (fun _ _ => rfl) (fun j p e => by simp at e)
  | cons p r ih =>
    intro i0 cells hp hc hl k hk
    obtain ⟨i, x⟩ := p
    have hi : i = i0 := by have := hp 0 _ rfl; simpa using this
    subst hi
    obtain ⟨hx1, hx2⟩ := hc _ (List.mem_cons_self ..)
    simp only at hx1 hx2
    have hle : (i + (r.length + 1)) * n = i * n + n + r.length * n := by rw [Nat.add_mul, Nat.add_mul, Nat.one_mul]; omega
    have hfit : i * n + n ≤ cells.length := by simp only [List.length_cons] at hl; rw [hle] at hl; omega
    refine ⟨hx1, hx2, hfit, ih (i + 1) _ (fun k p e => by have := hp (k + 1) p (by simpa using e); omega) (fun p hm => hc p (List.mem_cons_of_mem _ hm)) ?_ ?_⟩
    · rw [splice_length _ _ _ (by omega)]
      simp only [List.length_cons] at hl
      rw [show i + 1 + r.length = i + (r.length + 1) from by omega]; exact hl
    · intro out h1 h2 h3
      have hsp := splice_get cells (i * n) x.cells (by omega)
      refine hk out (by rw [h1, splice_length _ _ _ (by omega)]) (fun q hq => ?_) (fun j p e q hq => ?_)
      · rw [h2 q (by rw [Nat.add_mul]; omega), hsp, if_neg (by omega)]
      · cases j with
        | zero =>
          simp at e; subst e
          rw [Nat.add_zero, h2 _ (by rw [Nat.add_mul, Nat.one_mul]; omega), hsp, if_pos ⟨by omega, by omega⟩, Nat.add_sub_cancel_left]
        | succ j =>
          rw [show i + (j + 1) = i + 1 + j from by omega]
          exact h3 j p (by simpa using e) q hq

theorem buildSlice_ok (hI : Inv Γ G h w) {t : TypeId} {len : Nat} {parts : Array (Nat × Operand)} {a : Act} (ht : TR N G σ a.tmps) {K : AV → AH → Prop} (H : aBuildSlice P t len (evParts Γ σ parts) fun v => K v h) :
    SemOK P Γ G w (Instr.buildSlice t len (parts.map fun (i, x) => (i, a.eval x))) K := by
  have hlen : (evParts Γ σ parts).length = (parts.map fun (i, x) => (i, a.eval x)).toList.length := by simp [evParts]
  have hrel : ∀ (j : Nat) (p : Nat × AV) (q : Nat × Value), (evParts Γ σ parts)[j]? = some p → (parts.map fun (i, x) => (i, a.eval x)).toList[j]? = some q → p.1 = q.1 ∧ VR G p.2 q.2 := fun j p q e1 e2 => by
    simp only [evParts, List.getElem?_map, Option.map_eq_some_iff, Array.toList_map] at e1 e2
    obtain ⟨⟨i, x⟩, h1, rfl⟩ := e1
    obtain ⟨⟨i', x'⟩, h2, rfl⟩ := e2
    rw [h1] at h2; cases h2
    exact ⟨rfl, ev_VR hI ht x⟩
  unfold aBuildSlice at H
  split at H
  · rename_i e hd
    split at H
    · rename_i n z hn hz
      obtain ⟨h0, hzs, hmost, hidx, hcs, hk⟩ := H
      generalize hps : evParts Γ σ parts = ps at hlen hrel hidx hcs hk
      have hpl : ps.length = len := by have := congrArg List.length hidx; simpa using this
      have hp : ∀ k p, ps[k]? = some p → p.1 = 0 + k := fun k p e => by
        have : (ps.map (·.1))[k]? = some p.1 := by rw [List.getElem?_map, e]; rfl
        rw [hidx, List.getElem?_range (by have := (List.getElem?_eq_some_iff.1 e).1; omega)] at this
        cases this; omega
      obtain ⟨out, vals', f1, f2, f3⟩ := fill_ok (G := G) ps (parts.map fun (i, x) => (i, a.eval x)).toList (((Array.range (len * n)).map (z.cells[· % z.cells.size]!)).toList.map fun _ => AV.top)
        ((Array.range (len * n)).map (z.cells[· % z.cells.size]!)) ⟨by simp, fun j c e => by
          simp only [List.getElem?_map, Option.map_eq_some_iff] at e
          obtain ⟨_, _, rfl⟩ := e
          exact .top _⟩ hlen hrel
        (aFill_rows ps 0 _ hp hcs (by simp [hpl]) (k := fun out => out.length = len * n ∧ ∀ j p, ps[j]? = some p → ∀ q, q < n → out[j * n + q]? = p.2.cells[q]?) (fun out h1 _ h3 => ⟨by simpa using h1, fun j p e q hq => by have := h3 j p e q hq; rwa [Nat.zero_add] at this⟩))
      have hle := hI.fixed_le vals'
      have hI' := hI.alloc_fixed vals' e
      refine ⟨.slice (some ⟨w.heap.size, 0, none⟩) len len, w.alloc (.cells vals' e), _, _, h, ?_, hle, hI', ?_, hk⟩
      · have hf1 : Instr.fill (fun i => some (i * n, n)) ((Array.range (len * n)).map (z.cells[· % z.cells.size]!)) (parts.map fun (i, x) => (i, a.eval x)).toList = some vals' := f1
        simp only [Instr.buildSlice, Sem.run_bind, run_underlying hd, Result.andThen_ok, run_sizeOf' hn]
        rw [if_neg (by omega)]
        by_cases hl0 : len * n = 0
        · have hl : len = 0 := by rcases Nat.mul_eq_zero.1 hl0 with h | h <;> omega
          subst hl
          simp only [Nat.zero_mul, if_true, Sem.run_pure, Result.andThen_ok, Sem.run_bind] at hf1 ⊢
          have : ((Array.range 0).map fun x => (#[] : Array Value)[x % (#[] : Array Value).size]!) = ((Array.range 0).map (z.cells[· % z.cells.size]!)) := by simp
          rw [this, hf1]
          simp [newRow]
        · rw [if_neg hl0]
          simp only [Sem.run_bind, Sem.run_pure, run_zero' hz, Result.andThen_ok, hf1]
          simp [newRow]
      · have hmp : (ps.map (·.2)).length = len := by simp [hpl]
        have hvl : vals'.size = len * n := by rw [← f2.1]; exact f3.1
        have key := VR.sl_of_flat (G := G.fixed w.heap.size vals') (rows := ps.map (·.2)) (own := .full) (b := w.heap.size) (o := 0) (cap := len) (n := n) (vals := fun q => vals'.getD q undef)
          (fun r hr => by obtain ⟨p, hpm, rfl⟩ := List.mem_map.1 hr; exact (hcs p hpm).1) (by omega)
          (fun q hq => by
            rw [hmp] at hq
            simp only [Gh.fixed, if_true, Nat.zero_add]
            rw [Array.getElem?_eq_getElem (by omega)]
            simp [Array.getD_eq_getD_getElem?, Array.getElem?_eq_getElem (show q < vals'.size by omega)])
          (fun q c e => by
            have hq := (List.getElem?_eq_some_iff.1 e).1
            have hrl : ∀ r ∈ ps.map (·.2), r.cells.length = n := fun r hr => by obtain ⟨p, hpm, rfl⟩ := List.mem_map.1 hr; exact (hcs p hpm).1
            rw [flat_length hrl, hmp] at hq
            have hk' : q / n < len := Nat.div_lt_of_lt_mul (by rw [Nat.mul_comm]; exact hq)
            have hj : q % n < n := Nat.mod_lt _ (by omega)
            have hqq : q / n * n + q % n = q := by rw [Nat.mul_comm]; exact Nat.div_add_mod q n
            obtain ⟨p, hpk⟩ : ∃ p, ps[q / n]? = some p := ⟨_, List.getElem?_eq_getElem (by omega)⟩
            have hpm : (ps.map (·.2))[q / n]? = some p.2 := by rw [List.getElem?_map, hpk]; rfl
            have h1 := flat_get hrl _ _ _ hpm hj
            rw [hqq, e] at h1
            have h2 := f3.2 _ p hpk _ hj
            rw [hqq, ← h1] at h2
            exact (f2.2 q c h2).mono hle) (by show len = _; omega)
        rw [hmp] at key
        exact key
    · exact H.elim
  · exact H.elim
end
end Go.Abs
