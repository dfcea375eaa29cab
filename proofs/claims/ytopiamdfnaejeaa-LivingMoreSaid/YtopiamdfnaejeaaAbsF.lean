/- append, seen abstractly. It says nothing of any program; no conditions. -/
import Derived.Test.YtopiamdfnaejeaaAbsE
set_option linter.unusedSimpArgs false
set_option linter.unusedVariables false
namespace Go.Abs
open Go Go.RowKit

section
variable {P : Program} {Γ : Nat → Option (List AV)} {G : Gh} {h : AH} {w : World} {N : Nat} {σ : Tm}

/-- The elements of a slice or a string that is appended. -/
def SrcIs (x : AV) (h : AH) (xs : List AV) : Prop :=
  match x with
  | .sl rows _ => xs = rows
  | .ms i off len _ sz => ∃ cs T, h[i]? = some (.row cs T) ∧ sz = 1 ∧ off + len ≤ cs.length ∧ (∀ c ∈ (cs.drop off).take len, c.one = true) ∧ xs = (cs.drop off).take len
  | _ => False

def aAppend (P : Program) (t u : TypeId) (s x : AV) (h : AH) (K : AV → AH → Prop) : Prop :=
  match P.underlying t, P.underlying u with
  | some _, some (.int _) => False
  | some (.slice e), some _ => (match tsz P e, tbytes P e, tzero P e, s with
    | some n, some by_, some z, .sl rows own => n ≠ 0 ∧ z.cells.size = n ∧ ∃ xs, SrcIs x h xs ∧ RowsOK n rows ∧ RowsOK n xs ∧ rows.length + xs.length ≤ 9223372036854775807 ∧ (rows.length + xs.length) * by_ ≤ 140737488355328 ∧
        (match own with
         | .free => xs = [] ∧ K s h
         | .full => K (.sl (rows ++ xs) (.arena h.length)) (h ++ [.arena (rows.length + xs.length)])
         | .arena i => (match h[i]? with
           | some (.arena m) => m = rows.length ∧ K (.sl (rows ++ xs) (.arena i)) (h.set i (.arena (rows.length + xs.length)))
           | _ => False))
    | _, _, _, _ => False)
  | _, _ => False

/-- The ghost with an arena's entry. -/
def Gh.withAr (G : Gh) (i : Nat) (r : Ar) : Gh := { G with ar := fun j => if j = i then some r else G.ar j }
def Gh.fixedTo (G : Gh) (b : Nat) (vals : Array Value) (lim : Nat) : Gh := { G with F := fun c o => if c = b then (if o < lim then vals[o]? else none) else G.F c o }

theorem Inv.withAr_le (hI : Inv Γ G h w) (r : Ar) : G.le (G.withAr h.length r) :=
  ⟨rfl, fun _ _ e => e, fun _ _ _ e => e, fun i r' e => ⟨r', by have := hI.domA i r' e; simp only [Gh.withAr]; rw [if_neg (by omega)]; exact e, Nat.le_refl _, fun _ => rfl⟩, fun _ _ e => e, fun _ e => e, fun b _ e _ => ⟨b, e⟩⟩

/-- A new arena, whose newest version has no room. -/
theorem Inv.newArena (hI : Inv Γ G h w) (n : Nat) : Inv Γ (G.withAr h.length ⟨n, none⟩) (h ++ [.arena n]) w := by
  have hle := hI.withAr_le ⟨n, none⟩
  have har : ∀ i r, (G.withAr h.length ⟨n, none⟩).ar i = some r → (i = h.length ∧ r = ⟨n, none⟩) ∨ (i ≠ h.length ∧ G.ar i = some r) := fun i r e => by
    simp only [Gh.withAr] at e
    split at e
    · rename_i hi; cases e; exact .inl ⟨hi, rfl⟩
    · rename_i hi; exact .inr ⟨hi, e⟩
  exact {
    below := hI.below
    fix := hI.fix
    obj := fun i ob e => by
      rw [List.getElem?_append] at e
      split at e
      · rename_i hi
        exact (hI.obj i ob e).mono hle (fun _ _ => rfl) (fun r hr => by simp only [Gh.withAr]; rw [if_neg (by omega)]; exact hr) (fun h => ⟨h.1, by simp only [Gh.withAr]; rw [if_neg (by omega)]; exact h.2⟩)
      · rename_i hi
        have : i = h.length := by
          have := (List.getElem?_eq_some_iff.1 e).1
          simp at this; omega
        subst this
        simp at e; subst e; exact ⟨⟨n, none⟩, by simp [Gh.withAr], rfl⟩
    domρ := fun i b e => by have := hI.domρ i b e; simp; omega
    domA := fun i r e => by
      rcases har i r e with ⟨h1, _⟩ | ⟨_, h2⟩
      · simp [h1]
      · have := hI.domA i r h2; simp; omega
    inj := hI.inj
    base := hI.base
    sep := fun i b o v hf e e' => hI.sep i b o v (fun e'' => hf (by rw [List.getElem?_append_left (hI.domρ i b e)]; exact e'')) e e'
    arB := fun i r b c sz T e e' => by
      rcases har i r e with ⟨_, h2⟩ | ⟨_, h2⟩
      · subst h2; cases e'
      · exact (hI.arB i r b c sz T h2 e').mono (G' := G.withAr h.length ⟨n, none⟩) rfl rfl (fun _ _ h => h) (fun _ h => h)
    arI := fun i j r r' b c sz T c' sz' T' e1 e2 e3 e4 => by
      rcases har i r e1 with ⟨_, h2⟩ | ⟨_, h2⟩
      · subst h2; cases e3
      · rcases har j r' e2 with ⟨_, k2⟩ | ⟨_, k2⟩
        · subst k2; cases e4
        · exact hI.arI i j r r' b c sz T c' sz' T' h2 k2 e3 e4
    lp := hI.lp
    lpB := hI.lpB
    dsI := hI.dsI
    glob := fun g cs e => (hI.glob g cs e).mono hle }

/-- An arena moves to a new block. -/
theorem Inv.growArena (hI : Inv Γ G h w) {i : Nat} {r : Ar} (hi : G.ar i = some r) {m c sz : Nat} {T : TypeId} {vals : Array Value} (hm : r.n < m) (hsz : vals.size = c * sz) (hmc : m ≤ c) (hfz : h[i]? ≠ some .frozen) :
    G.le ((G.withAr i ⟨m, some (w.heap.size, c, sz, T)⟩).fixedTo w.heap.size vals (m * sz)) ∧
    Inv Γ ((G.withAr i ⟨m, some (w.heap.size, c, sz, T)⟩).fixedTo w.heap.size vals (m * sz)) (h.set i (.arena m)) (w.alloc (.cells vals T)) := by
  generalize hG' : (G.withAr i ⟨m, some (w.heap.size, c, sz, T)⟩).fixedTo w.heap.size vals (m * sz) = G'
  have hle : G.le G' := by
    subst hG'
    refine ⟨rfl, fun _ _ e => e, fun b o v e => ?_, fun j r' e => ?_, fun _ _ e => e, fun _ e => e, fun b _ e _ => ⟨b, e⟩⟩
    · have := hI.F_lt e; simp only [Gh.fixedTo, Gh.withAr]; rw [if_neg (by omega)]; exact e
    · by_cases hj : j = i
      · subst hj; rw [hi] at e; cases e
        exact ⟨⟨m, some (w.heap.size, c, sz, T)⟩, by simp [Gh.fixedTo, Gh.withAr], by simp only; omega, fun e => by simp only at e; omega⟩
      · exact ⟨r', by simp only [Gh.fixedTo, Gh.withAr]; rw [if_neg hj]; exact e, Nat.le_refl _, fun _ => rfl⟩
  refine ⟨hle, ?_⟩
  have hI' := hI.alloc_any (.cells vals T)
  have hnew : (w.alloc (.cells vals T)).heap[w.heap.size]? = some (.cells vals T (0, 0)) := heap_alloc_new w _
  have hF : ∀ b o v, G'.F b o = some v → (b = w.heap.size ∧ o < m * sz ∧ vals[o]? = some v) ∨ (b ≠ w.heap.size ∧ G.F b o = some v) := fun b o v e => by
    subst hG'
    simp only [Gh.fixedTo, Gh.withAr] at e
    split at e
    · rename_i hb
      split at e
      · rename_i ho; exact .inl ⟨hb, ho, e⟩
      · cases e
    · rename_i hb; exact .inr ⟨hb, e⟩
  have hρ : ∀ j, G'.ρ j = G.ρ j := fun j => by subst hG'; rfl
  have har : ∀ j r', G'.ar j = some r' → (j = i ∧ r' = ⟨m, some (w.heap.size, c, sz, T)⟩) ∨ (j ≠ i ∧ G.ar j = some r') := fun j r' e => by
    subst hG'
    simp only [Gh.fixedTo, Gh.withAr] at e
    split at e
    · rename_i hj; cases e; exact .inl ⟨hj, rfl⟩
    · rename_i hj; exact .inr ⟨hj, e⟩
  exact {
    below := hle.w0 ▸ hI'.below
    fix := fun b o v e => by
      rcases hF b o v e with ⟨hb, _, hv⟩ | ⟨_, hv⟩
      · subst hb; rw [cell_of hnew]; exact hv
      · exact hI'.fix b o v hv
    obj := fun j ob e => by
      rw [List.getElem?_set] at e
      split at e
      · rename_i hij; subst hij
        split at e
        · cases e; subst hG'; exact ⟨⟨m, some (w.heap.size, c, sz, T)⟩, by simp [Gh.fixedTo, Gh.withAr], rfl⟩
        · cases e
      · rename_i hij
        refine (hI'.obj j ob e).mono hle (fun _ _ => rfl) (fun r' hr' => ?_) (fun h => ?_)
        · subst hG'; simp only [Gh.fixedTo, Gh.withAr]; rw [if_neg (fun e => hij e.symm)]; exact hr'
        · subst hG'; exact ⟨h.1, by simp only [Gh.fixedTo, Gh.withAr]; rw [if_neg (fun e => hij e.symm)]; exact h.2⟩
    domρ := fun j b e => by rw [List.length_set]; rw [hρ] at e; exact hI.domρ j b e
    domA := fun j r' e => by
      rw [List.length_set]
      rcases har j r' e with ⟨h1, _⟩ | ⟨_, h2⟩
      · rw [h1]; exact hI.domA i r hi
      · exact hI.domA j r' h2
    inj := fun j k b e e' => by rw [hρ] at e e'; exact hI.inj j k b e e'
    base := fun j b e => by rw [hρ] at e; rw [hle.w0]; exact hI'.base j b e
    sep := fun j b o v hf e e' => by
      rw [hρ] at e
      rcases hF b o v e' with ⟨hb, _, _⟩ | ⟨_, hv⟩
      · have := (hI.base j b e).2; omega
      · refine hI.sep j b o v (fun e'' => ?_) e hv
        by_cases hj : i = j
        · subst hj; exact hfz e''
        · exact hf (by rw [List.getElem?_set_ne hj]; exact e'')
    arB := fun j r' b c' sz' T' e e' => by
      rcases har j r' e with ⟨_, h2⟩ | ⟨_, h2⟩
      · subst h2
        simp only [Option.some.injEq, Prod.mk.injEq] at e'
        obtain ⟨rfl, rfl, rfl, rfl⟩ := e'
        refine ⟨⟨vals, hnew, hsz⟩, hmc, by show 0 < m; omega, by rw [hle.w0]; exact hI.below.size, fun o v e => ?_, fun k ek => ?_⟩
        · rcases hF _ o v e with ⟨_, ho, _⟩ | ⟨hb, _⟩
          · exact ho
          · exact absurd rfl hb
        · rw [hρ] at ek; have := (hI.base k _ ek).2; omega
      · refine (hI'.arB j r' b c' sz' T' h2 e').mono hle.w0 rfl (fun o v hv => ?_) (fun k ek => by rwa [hρ] at ek)
        rcases hF b o v hv with ⟨hb, _, _⟩ | ⟨_, hv⟩
        · have := hI.ar_lt h2 e'; omega
        · exact hv
    arI := fun j k r1 r2 b c1 s1 T1 c2 s2 T2 e1 e2 e3 e4 => by
      rcases har j r1 e1 with ⟨h1, h2⟩ | ⟨h1, h2⟩ <;> rcases har k r2 e2 with ⟨k1, k2⟩ | ⟨k1, k2⟩
      · omega
      · subst h2
        simp only [Option.some.injEq, Prod.mk.injEq] at e3
        have := hI.ar_lt k2 e4; omega
      · subst k2
        simp only [Option.some.injEq, Prod.mk.injEq] at e4
        have := hI.ar_lt h2 e3; omega
      · exact hI.arI j k r1 r2 b c1 s1 T1 c2 s2 T2 h2 k2 e3 e4
    lp := fun b D e => hI'.lp b D (by subst hG'; exact e) |>.imp fun l hl => ⟨hl.1, hl.2.1, by subst hG'; exact hl.2.2⟩
    lpB := fun b D e => by rw [hle.w0]; exact hI.lpB b D (by subst hG'; exact e)
    dsI := fun D e => by rw [hle.w0]; exact hI'.dsI D (by subst hG'; exact e)
    glob := fun g cs e => (hI'.glob g cs e).mono hle }

/-- The ghost with more cells of one block fixed. -/
def Gh.fixMore (G : Gh) (b lo hi : Nat) (vals : Array Value) : Gh := { G with F := fun c o => if c = b ∧ lo ≤ o ∧ o < hi then vals[o]? else G.F c o }

/-- An arena's newest version grows in place. -/
theorem Inv.roomArena (hI : Inv Γ G h w) {i : Nat} {r : Ar} (hi : G.ar i = some r) {b c sz m : Nat} {T : TypeId} (hr : r.blk = some (b, c, sz, T)) {cur vals : Array Value} (hcur : w.heap[b]? = some (.cells cur T (0, 0)))
    (hsz : vals.size = cur.size) (hold : ∀ o, o < r.n * sz → vals[o]? = cur[o]?) (hm : r.n < m) (hmc : m ≤ c) (hfz : h[i]? ≠ some .frozen) :
    G.le ((G.withAr i ⟨m, some (b, c, sz, T)⟩).fixMore b (r.n * sz) (m * sz) vals) ∧
    Inv Γ ((G.withAr i ⟨m, some (b, c, sz, T)⟩).fixMore b (r.n * sz) (m * sz) vals) (h.set i (.arena m)) (w.setRow b vals) := by
  have hAB := hI.arB i r b c sz T hi hr
  generalize hG' : (G.withAr i ⟨m, some (b, c, sz, T)⟩).fixMore b (r.n * sz) (m * sz) vals = G'
  have hle : G.le G' := by
    subst hG'
    refine ⟨rfl, fun _ _ e => e, fun b' o v e => ?_, fun j r' e => ?_, fun _ _ e => e, fun _ e => e, fun b _ e _ => ⟨b, e⟩⟩
    · simp only [Gh.fixMore, Gh.withAr]
      rw [if_neg (fun ⟨e1, e2, _⟩ => by subst e1; have := hAB.above o v e; omega)]; exact e
    · by_cases hj : j = i
      · subst hj; rw [hi] at e; cases e
        exact ⟨⟨m, some (b, c, sz, T)⟩, by simp [Gh.fixMore, Gh.withAr], by simp only; omega, fun e => by simp only at e; omega⟩
      · exact ⟨r', by simp only [Gh.fixMore, Gh.withAr]; rw [if_neg hj]; exact e, Nat.le_refl _, fun _ => rfl⟩
  refine ⟨hle, ?_⟩
  have hnew := setRow_heap w b cur vals T (0, 0) hcur
  have hsame : ∀ k, k ≠ b → (w.setRow b vals).heap[k]? = w.heap[k]? := fun k hk => heap_setRow_ne w b k vals hk
  have hF : ∀ b' o v, G'.F b' o = some v → (b' = b ∧ r.n * sz ≤ o ∧ o < m * sz ∧ vals[o]? = some v) ∨ G.F b' o = some v := fun b' o v e => by
    subst hG'
    simp only [Gh.fixMore, Gh.withAr] at e
    split at e
    · rename_i hb; exact .inl ⟨hb.1, hb.2.1, hb.2.2, e⟩
    · exact .inr e
  have hρ : ∀ j, G'.ρ j = G.ρ j := fun j => by subst hG'; rfl
  have har : ∀ j r', G'.ar j = some r' → (j = i ∧ r' = ⟨m, some (b, c, sz, T)⟩) ∨ (j ≠ i ∧ G.ar j = some r') := fun j r' e => by
    subst hG'
    simp only [Gh.fixMore, Gh.withAr] at e
    split at e
    · rename_i hj; cases e; exact .inl ⟨hj, rfl⟩
    · rename_i hj; exact .inr ⟨hj, e⟩
  have hnl : ∀ x, w.heap[b]? ≠ some (.loop x) := fun x e => by rw [hcur] at e; cases e
  have hnd : ∀ x, w.heap[b]? ≠ some (.deferred x) := fun x e => by rw [hcur] at e; cases e
  exact {
    below := hle.w0 ▸ hI.below.trans ⟨rfl, rfl, rfl, by simp [World.setRow], fun k hk => hsame k (fun e => by have := hAB.base; omega)⟩
    fix := fun b' o v e => by
      rcases hF b' o v e with ⟨hb, _, _, hv⟩ | hv
      · subst hb; rw [cell_of hnew]; exact hv
      · by_cases hb : b' = b
        · subst hb
          have h1 := hI.fix _ o v hv
          rw [cell_of hcur] at h1
          rw [cell_of hnew, hold o (hAB.above o v hv)]; exact h1
        · exact (cell_eq (hsame b' hb)).trans (hI.fix b' o v hv)
    obj := fun j ob e => by
      rw [List.getElem?_set] at e
      split at e
      · rename_i hij; subst hij
        split at e
        · cases e; subst hG'; exact ⟨⟨m, some (b, c, sz, T)⟩, by simp [Gh.fixMore, Gh.withAr], rfl⟩
        · cases e
      · rename_i hij
        refine (hI.obj j ob e).mono hle (fun b' e' => hsame b' (fun e'' => hAB.ρ j (e'' ▸ e'))) (fun r' hr' => ?_) (fun h => ?_)
        · subst hG'; simp only [Gh.fixMore, Gh.withAr]; rw [if_neg (fun e => hij e.symm)]; exact hr'
        · subst hG'; exact ⟨h.1, by simp only [Gh.fixMore, Gh.withAr]; rw [if_neg (fun e => hij e.symm)]; exact h.2⟩
    domρ := fun j b' e => by rw [List.length_set]; rw [hρ] at e; exact hI.domρ j b' e
    domA := fun j r' e => by
      rw [List.length_set]
      rcases har j r' e with ⟨h1, _⟩ | ⟨_, h2⟩
      · rw [h1]; exact hI.domA i r hi
      · exact hI.domA j r' h2
    inj := fun j k b' e e' => by rw [hρ] at e e'; exact hI.inj j k b' e e'
    base := fun j b' e => by rw [hρ] at e; rw [hle.w0]; have := hI.base j b' e; exact ⟨this.1, by simp [World.setRow]; exact this.2⟩
    sep := fun j b' o v hf e e' => by
      rw [hρ] at e
      rcases hF b' o v e' with ⟨hb, _, _, _⟩ | hv
      · subst hb; exact hAB.ρ j e
      · refine hI.sep j b' o v (fun e'' => ?_) e hv
        by_cases hj : i = j
        · subst hj; exact hfz e''
        · exact hf (by rw [List.getElem?_set_ne hj]; exact e'')
    arB := fun j r' b' c' sz' T' e e' => by
      rcases har j r' e with ⟨_, h2⟩ | ⟨hne, h2⟩
      · subst h2
        simp only [Option.some.injEq, Prod.mk.injEq] at e'
        obtain ⟨rfl, rfl, rfl, rfl⟩ := e'
        refine ⟨⟨vals, hnew, ?_⟩, hmc, by show 0 < m; omega, by rw [hle.w0]; exact hAB.base, fun o v e => ?_, fun k ek => by rw [hρ] at ek; exact hAB.ρ k ek⟩
        · obtain ⟨cells, k1, k2⟩ := hAB.blk
          rw [hcur] at k1; cases k1
          rw [hsz, k2]
        · rcases hF _ o v e with ⟨_, _, ho, _⟩ | hv
          · exact ho
          · have h1 := hAB.above o v hv
            have h2 : r.n * sz ≤ m * sz := Nat.mul_le_mul_right _ (by omega)
            simp only; omega
      · have hbb : b' ≠ b := fun e'' => by subst e''; exact hne (hI.arI j i r' r _ c' sz' T' c sz T h2 hi e' hr)
        refine (hI.arB j r' b' c' sz' T' h2 e').mono hle.w0 (hsame b' hbb) (fun o v hv => ?_) (fun k ek => by rwa [hρ] at ek)
        rcases hF b' o v hv with ⟨hb, _, _, _⟩ | hv
        · exact absurd hb hbb
        · exact hv
    arI := fun j k r1 r2 b' c1 s1 T1 c2 s2 T2 e1 e2 e3 e4 => by
      rcases har j r1 e1 with ⟨h1, h2⟩ | ⟨h1, h2⟩ <;> rcases har k r2 e2 with ⟨k1, k2⟩ | ⟨k1, k2⟩
      · omega
      · subst h2
        simp only [Option.some.injEq, Prod.mk.injEq] at e3
        obtain ⟨rfl, _, _, _⟩ := e3
        exact absurd (hI.arI k i r2 r _ c2 s2 T2 c sz T k2 hi e4 hr) k1
      · subst k2
        simp only [Option.some.injEq, Prod.mk.injEq] at e4
        obtain ⟨rfl, _, _, _⟩ := e4
        exact absurd (hI.arI j i r1 r _ c1 s1 T1 c sz T h2 hi e3 hr) h1
      · exact hI.arI j k r1 r2 b' c1 s1 T1 c2 s2 T2 h2 k2 e3 e4
    lp := fun b' D e => by
      obtain ⟨l, h1, h2, h3⟩ := hI.lp b' D (by subst hG'; exact e)
      exact ⟨l, (hsame b' (fun e' => hnl l (e' ▸ h1))).trans h1, h2, by subst hG'; exact h3⟩
    lpB := fun b' D e => by rw [hle.w0]; exact hI.lpB b' D (by subst hG'; exact e)
    dsI := fun D e => by
      rw [hle.w0]
      have := hI.dsI D (by subst hG'; exact e)
      exact ⟨(hsame D (fun e' => hnd _ (e' ▸ this.1))).trans this.1, this.2⟩
    glob := fun g cs e => (hI.glob g cs e).mono hle }

/-- The source of an append as cells. -/
theorem src_ok (hI : Inv Γ G h w) {x : AV} {v : Value} (hv : VR G x v) {xs : List AV} (hs : SrcIs x h xs) {n : Nat} (hn : n ≠ 0) (hok : RowsOK n xs) :
    ∃ news : List Value, news.length = xs.length * n ∧ VRs G (flat xs) news.toArray ∧ (∀ w', (Builtin.lenOf v).run P w' = .ok xs.length w') ∧
      ∀ w' : World, w'.heap = w.heap → (Builtin.firstCells n xs.length v).run P w' = .ok news.toArray w' := by
  unfold SrcIs at hs
  split at hs
  · rename_i rows own
    subst hs
    have hv0 := hv
    cases hv with
    | sl vals hcap hnil hsz hF hv hown =>
      obtain ⟨olds, h1, h2, h3⟩ := hv0.flatCells (P := P) hI (fun r hr => (hok r hr).1)
      exact ⟨olds, h1, h2, fun w' => rfl, h3⟩
  · rename_i i off len cap sz
    obtain ⟨cs, T, hrow, rfl, hfit, hone, rfl⟩ := hs
    obtain ⟨b, vals, k1, k2, k3⟩ := hI.row hrow
    cases hv with
    | ms hb =>
      rw [k1] at hb; cases hb
      have hl : ((cs.drop off).take len).length = len := by rw [List.length_take, List.length_drop]; omega
      rw [hl]
      by_cases hlen : len = 0
      · subst hlen
        exact ⟨[], by simp, by simpa [flat] using VRs.nil G, fun w' => rfl, fun w' _ => by simp [Builtin.firstCells, loadCells, loadCellsFrom]⟩
      · obtain ⟨c0, hc0⟩ : ∃ c, ((cs.drop off).take len)[0]? = some c := ⟨_, List.getElem?_eq_getElem (by omega)⟩
        have hcell : ∀ c, c ∈ (cs.drop off).take len → c.cells = [c] := fun c hc => by
          have := hone c hc
          cases c <;> first | rfl | (simp [AV.one] at this)
        have hn1 : n = 1 := by
          have hm := List.mem_of_getElem? hc0
          have := (hok c0 hm).1
          rw [hcell c0 hm] at this; simpa using this.symm
        subst hn1
        have hflat : flat ((cs.drop off).take len) = (cs.drop off).take len := by
          have : ∀ l : List AV, (∀ c ∈ l, c.cells = [c]) → flat l = l := fun l => by
            induction l with
            | nil => intro _; rfl
            | cons c l ih => intro h; rw [flat_cons, h c (by simp), ih (fun x hx => h x (by simp [hx]))]; rfl
          exact this _ hcell
        have hA := (At.of_row k2 k3).drop off
        refine ⟨(List.range len).map fun q => (w.cell? ⟨b, off + q, none⟩).getD undef, by simp, ?_, fun w' => rfl, fun w' hw' => ?_⟩
        · rw [hflat]
          refine VRs.of_get (by simp; omega) fun j c v e e' => ?_
          rw [List.getElem?_take] at e
          split at e
          · rename_i hj
            obtain ⟨u, q1, q2⟩ := hA j c e
            rw [Nat.zero_add] at q1
            simp [hj, q1] at e'
            subst e'; exact q2
          · cases e
        · have hr' := run_loadCells (P := P) w' ⟨b, off, none⟩ len (fun q => (w.cell? ⟨b, off + q, none⟩).getD undef) (fun q hq => by
            obtain ⟨u, q1, q2⟩ := hA q _ (List.getElem?_eq_getElem (show q < (cs.drop off).length by rw [List.length_drop]; omega))
            rw [Nat.zero_add] at q1
            rw [Addr.add_lit, cell_eq (w := w) (by rw [hw']), q1]; rfl)
          simpa [Builtin.firstCells] using hr'
  · exact hs.elim

/-- append that must move. -/
theorem run_append_moves {t u ty e : TypeId} {d : TypeDesc} {n by_ : Nat} {z : Value} (ht : P.underlying t = some (.slice e)) (hu : P.underlying u = some d) (hd : ∀ k, d ≠ .int k)
    (hn : tsz P e = some n) (hb : tbytes P e = some by_) (hz : tzero P e = some z) {base : Option Addr} {sLen sCap m : Nat} {x : Value} {olds news : List Value}
    (hlen : ∀ w', (Builtin.lenOf x).run P w' = .ok m w') (hfo : (Builtin.firstCells n sLen (.slice base sLen sCap)).run P w.drew = .ok olds.toArray w.drew) (hfn : (Builtin.firstCells n m x).run P w.drew = .ok news.toArray w.drew)
    (hg : sCap < sLen + m) (h63 : sLen + m ≤ 9223372036854775807) (hby : (sLen + m) * by_ ≤ 140737488355328) :
    (Builtin.append_ #[t, u] ty #[.slice base sLen sCap, x]).run P w =
      .ok (.slice (some ⟨w.heap.size, 0, none⟩) (sLen + m) (grownCap w (sLen + m) sCap e)) (w.drew.alloc (.cells (olds.toArray ++ news.toArray ++ Builtin.zeroCells z.cells (grownCap w (sLen + m) sCap e - (sLen + m))) e)) := by
  have hn' : ¬ (sLen + m ≤ sCap) := by omega
  have hfit := growslice_fits hg hby
  obtain ⟨i, hi⟩ : ∃ i, P.info? e = some i := by unfold tsz at hn; cases hi : P.info? e with
    | none => simp [hi] at hn
    | some i => exact ⟨i, rfl⟩
  have hisz : i.size = n := by simpa [tsz, hi] using hn
  have hiby : i.bytes = by_ := by simpa [tbytes, hi] using hb
  have hiz : i.zero = some z := by simpa [tzero, hi] using hz
  subst hisz hiby
  have h63' : ¬ (9223372036854775807 < ((sLen : Int) + (m : Int))) := by omega
  have h48' : ¬ (281474976710656 < Builtin.nextslicecap (sLen + m) sCap * i.bytes) := by omega
  simp [Builtin.append_, run_underlying ht, run_underlying hu, sizeOf, typeInfo, zeroValue, hi, hiz, hlen, hn', h63', h48', Question.forced, hfo, hfn, newRow, grownCap]
  congr 2
  apply Array.ext'
  simp

/-- append within the capacity. -/
theorem run_append_fits {t u ty e : TypeId} {d : TypeDesc} {n : Nat} (ht : P.underlying t = some (.slice e)) (hu : P.underlying u = some d) (hd : ∀ k, d ≠ .int k)
    (hn : tsz P e = some n) {base : Option Addr} {sLen sCap m : Nat} {x : Value} {news : List Value}
    (hlen : ∀ w', (Builtin.lenOf x).run P w' = .ok m w') (hfn : (Builtin.firstCells n m x).run P w = .ok news.toArray w) (hg : sLen + m ≤ sCap) {w' : World}
    (hst : ∀ a, base = some a → (storeCells (a.add (sLen * n)) news).run P w = .ok () w') (hnone : base = none → w' = w) :
    (Builtin.append_ #[t, u] ty #[.slice base sLen sCap, x]).run P w = .ok (.slice base (sLen + m) sCap) w' := by
  cases base with
  | none => simp [Builtin.append_, run_underlying ht, run_underlying hu, run_sizeOf' hn, hlen, hg, hfn, hnone rfl]
  | some a => simp [Builtin.append_, run_underlying ht, run_underlying hu, run_sizeOf' hn, hlen, hg, hfn, hst a rfl]

theorem append_ok (hI : Inv Γ G h w) {t u ty : TypeId} {s x : AV} {vs vx : Value} (hs : VR G s vs) (hx : VR G x vx) {K : AV → AH → Prop} (H : aAppend P t u s x h K) :
    SemOK P Γ G w (Builtin.append_ #[t, u] ty #[vs, vx]) K := by
  unfold aAppend at H
  split at H
  · exact H.elim
  · rename_i e d hd ht hu
    split at H
    · rename_i n by_ z rows own hn hb hz
      obtain ⟨h0, hzn, xs, hsrc, hok, hxok, h63, hby, H⟩ := H
      have key : ∀ (G : Gh) (h : AH) (i : Nat) (vs vx : Value), Inv Γ G h w → VR G (.sl rows (.arena i)) vs → VR G x vx → SrcIs x h xs → h[i]? = some (.arena rows.length) →
          K (.sl (rows ++ xs) (.arena i)) (h.set i (.arena (rows.length + xs.length))) → SemOK P Γ G w (Builtin.append_ #[t, u] ty #[vs, vx]) K := by
        intro G h i vs vx hI hs hx hsrc hhi hk
        obtain ⟨news, q1, q2, q3, q4⟩ := src_ok (P := P) hI hx hsrc h0 hxok
        have hs0 := hs
        have hallc : ∀ r ∈ rows, r.cells.length = n := fun r hr => (hok r hr).1
        have hall : ∀ r ∈ rows ++ xs, r.cells.length = n := fun r hr => (hok.append hxok r hr).1
        obtain ⟨r, har, hrn⟩ : ObjR G w i (.arena rows.length) := hI.obj i _ hhi
        cases hs with
        | sl vals hcap hnil hsz hF hv hown =>
          rename_i base cap sz
          obtain ⟨olds, p1, p2, p3⟩ := hs0.flatCells (P := P) hI hallc
          obtain ⟨r', har', _, hblk⟩ := hown
          rw [har] at har'; cases har'
          have hblk := hblk hrn.symm
          by_cases hm : xs.length = 0
          · have hx0 : xs = [] := List.eq_nil_of_length_eq_zero hm
            subst hx0
            have hnews : news = [] := List.eq_nil_of_length_eq_zero (by simpa using q1)
            subst hnews
            have hr := run_append_fits (P := P) (w := w) (ty := ty) ht hu (fun k e => hd k e) hn (base := base) (sLen := rows.length) (sCap := cap) (m := 0) (x := vx) (news := []) q3 (q4 w rfl) (by omega) (w' := w) (fun a _ => by simp [storeCells]) (fun _ => rfl)
            have hset : h.set i (.arena (rows.length + 0)) = h := by
              apply List.ext_getElem?
              intro j
              rw [List.getElem?_set]
              split
              · rename_i hij; subst hij
                rw [if_pos (List.getElem?_eq_some_iff.1 hhi).1, hhi]; rfl
              · rfl
            simp only [List.length_nil, hset, List.append_nil] at hk
            exact ⟨_, w, G, _, h, hr, Gh.le.refl G, hI, hs0, hk⟩
          · have hlen : (rows ++ xs).length = rows.length + xs.length := by simp
            have hflat : flat (rows ++ xs) = flat rows ++ flat xs := flat_append _ _
            by_cases hg : cap < rows.length + xs.length
            · have hr := run_append_moves (P := P) (w := w) (ty := ty) ht hu (fun k e => hd k e) hn hb hz (base := base) (sLen := rows.length) (sCap := cap) (m := xs.length) (x := vx) q3 (p3 w.drew rfl) (q4 w.drew rfl) hg h63 hby
              have hge := grownCap_ge w (rows.length + xs.length) cap e
              generalize grownCap w (rows.length + xs.length) cap e = nc at hr hge
              generalize hA : olds.toArray ++ news.toArray ++ Builtin.zeroCells z.cells (nc - (rows.length + xs.length)) = A at hr
              have hpre : olds.length + news.length = (rows.length + xs.length) * n := by rw [p1, q1, Nat.add_mul]
              have hAs : A.size = nc * n := by
                rw [← hA]
                simp only [Array.size_append, List.size_toArray, size_zeroCells, hzn]
                rw [hpre, ← Nat.add_mul]; congr 1; omega
              have hAg : ∀ q, q < (rows.length + xs.length) * n → A[q]? = (olds.toArray ++ news.toArray)[q]? := fun q hq => by
                rw [← hA, Array.getElem?_append_left (by simp only [Array.size_append, List.size_toArray]; omega)]
              obtain ⟨hle, hI'⟩ := hI.drew.growArena har (m := rows.length + xs.length) (c := nc) (sz := n) (T := e) (vals := A) (by omega) hAs hge (by rw [hhi]; simp)
              rw [World.size_drew] at hle hI'
              refine ⟨_, _, _, _, _, hr, hle, hI', ?_, hk⟩
              rw [← hlen]
              refine VR.sl_of_flat (n := n) (vals := fun q => A.getD q undef) hall (by omega) (fun q hq => ?_) (fun q c ec => ?_) ?_
              · rw [hlen] at hq
                have hqA : q < A.size := by rw [hAs]; exact Nat.lt_of_lt_of_le hq (Nat.mul_le_mul_right _ hge)
                simp only [Gh.fixedTo, Nat.zero_add, hlen, if_true]
                rw [if_pos hq, Array.getElem?_eq_getElem hqA]
                simp [Array.getD_eq_getD_getElem?, Array.getElem?_eq_getElem hqA]
              · rw [hflat] at ec
                obtain ⟨v, k1, k2⟩ := (p2.append q2).get ec
                have hq : q < (rows.length + xs.length) * n := by
                  have := (Array.getElem?_eq_some_iff.1 k1).1
                  simp only [Array.size_append, List.size_toArray] at this; omega
                simp only [Array.getD_eq_getD_getElem?, hAg q hq, k1, Option.getD_some]
                exact k2.mono (by rw [hlen]; exact hle)
              · refine ⟨⟨rows.length + xs.length, some (w.heap.size, nc, n, e)⟩, by simp [Gh.fixedTo, Gh.withAr], by simp, fun _ => ⟨rfl, rfl, fun _ => rfl⟩⟩
            · cases hbk : r.blk with
              | none => rw [hbk] at hblk; simp only at hblk; omega
              | some bb =>
                obtain ⟨b, c, s, T⟩ := bb
                rw [hbk] at hblk
                simp only at hblk
                obtain ⟨rfl, rfl, hss⟩ := hblk
                have hAB := hI.arB i r b _ s T har hbk
                have hpos : rows ≠ [] := fun e => by have := hAB.pos; rw [hrn, e] at this; simp at this
                obtain ⟨r0, hr0⟩ : ∃ r0, rows[0]? = some r0 := ⟨_, List.getElem?_eq_getElem (List.length_pos_iff.2 hpos)⟩
                have hsn : s = n := by rw [← hss hpos, ← hsz 0 r0 hr0]; exact hallc r0 (List.mem_of_getElem? hr0)
                subst hsn
                obtain ⟨cur, hcur, hcs⟩ := hAB.blk
                have hnone : ∀ v ∈ news, v.oneCell' = true := by
                  have := q2.oneCells (fun c hc => by
                    simp only [flat, List.mem_flatMap] at hc
                    obtain ⟨r, hr, hc⟩ := hc
                    exact (hxok r hr).2 c hc)
                  simpa using this
                have hfit : rows.length * s + news.length ≤ cur.size := by rw [q1, hcs, ← Nat.add_mul]; exact Nat.mul_le_mul_right _ (by omega)
                have hst := run_storeCells_at P b (rows.length * s) T news 0 cur w hcur (by simpa using hfit) hnone
                simp only [Nat.add_zero] at hst
                generalize hV : (cur.toList.take (rows.length * s) ++ news ++ cur.toList.drop (rows.length * s + news.length)).toArray = V at hst
                have hr := run_append_fits (P := P) (w := w) (ty := ty) ht hu (fun k e => hd k e) hn (base := some ⟨b, 0, none⟩) (sLen := rows.length) (sCap := cap) (m := xs.length) (x := vx) q3 (q4 w rfl) (by omega) (w' := w.setRow b V)
                  (fun a ea => by cases ea; rw [Addr.add_lit, Nat.zero_add]; exact hst) (fun e => by cases e)
                have htl : (cur.toList.take (rows.length * s)).length = rows.length * s := by have : cur.toList.length = cur.size := Array.length_toList; rw [List.length_take]; omega
                have hVs : V.size = cur.size := by rw [← hV]; simp only [List.size_toArray, List.length_append, htl, List.length_drop, Array.length_toList]; omega
                have hVlo : ∀ o, o < rows.length * s → V[o]? = cur[o]? := fun o ho => by
                  rw [← hV, List.getElem?_toArray, List.append_assoc, List.getElem?_append_left (by rw [htl]; exact ho), List.getElem?_take, if_pos ho, Array.getElem?_toList]
                have hVhi : ∀ o, rows.length * s ≤ o → o < (rows.length + xs.length) * s → V[o]? = news[o - rows.length * s]? := fun o ho ho' => by
                  rw [Nat.add_mul, ← q1] at ho'
                  rw [← hV, List.getElem?_toArray, List.getElem?_append_left (by simp only [List.length_append, htl]; omega), List.getElem?_append_right (by omega), htl]
                obtain ⟨hle, hI'⟩ := hI.roomArena har hbk (m := rows.length + xs.length) hcur hVs (fun o ho => hVlo o (by rwa [hrn] at ho)) (by omega) (by omega) (by rw [hhi]; simp)
                refine ⟨_, _, _, _, _, hr, hle, hI', ?_, hk⟩
                rw [← hlen]
                refine VR.sl_of_flat (n := s) (vals := fun q => V.getD q undef) hall (by omega) (fun q hq => ?_) (fun q c ec => ?_) ?_
                · rw [hlen] at hq
                  have hqV : q < V.size := by rw [hVs, hcs]; exact Nat.lt_of_lt_of_le hq (Nat.mul_le_mul_right _ (by omega))
                  have hVq : V[q]? = some (V.getD q undef) := by simp [Array.getD_eq_getD_getElem?, Array.getElem?_eq_getElem hqV]
                  simp only [Gh.fixMore, Nat.zero_add, hlen]
                  by_cases hlo : q < rows.length * s
                  · rw [if_neg (by rw [hrn]; omega)]
                    obtain ⟨c, v, _, k2, _⟩ := hs0.slF hallc hlo
                    rw [Nat.zero_add] at k2
                    have k3 := hI.fix _ _ _ k2
                    rw [cell_of hcur, ← hVlo q hlo, hVq] at k3
                    show G.F b q = _
                    rw [k2, k3]
                  · rw [if_pos (by refine ⟨?_, ?_, ?_⟩ <;> first | trivial | (rw [hrn]; omega) | exact hq)]; exact hVq
                · rw [hflat] at ec
                  have hql := (List.getElem?_eq_some_iff.1 ec).1
                  rw [List.length_append, flat_length hallc, flat_length (fun r hr => (hxok r hr).1), ← Nat.add_mul] at hql
                  have hqV : q < V.size := by rw [hVs, hcs]; exact Nat.lt_of_lt_of_le hql (Nat.mul_le_mul_right _ (by omega))
                  have hVq : V[q]? = some (V.getD q undef) := by simp [Array.getD_eq_getD_getElem?, Array.getElem?_eq_getElem hqV]
                  refine VR.mono (by rw [hlen]; exact hle) ?_
                  by_cases hlo : q < rows.length * s
                  · obtain ⟨c', v, k1, k2, k4⟩ := hs0.slF hallc hlo
                    rw [Nat.zero_add] at k2
                    have k3 := hI.fix _ _ _ k2
                    rw [cell_of hcur, ← hVlo q hlo, hVq] at k3
                    rw [List.getElem?_append_left (by rw [flat_length hallc]; exact hlo), k1] at ec
                    cases ec; cases k3; exact k4
                  · rw [List.getElem?_append_right (by rw [flat_length hallc]; omega), flat_length hallc] at ec
                    obtain ⟨v, k1, k2⟩ := q2.get ec
                    rw [List.getElem?_toArray, ← hVhi q (by omega) hql, hVq] at k1
                    cases k1; exact k2
                · exact ⟨⟨rows.length + xs.length, some (b, cap, s, T)⟩, by simp [Gh.fixMore, Gh.withAr], by simp, fun _ => by simp⟩
      cases own with
      | free =>
        obtain ⟨rfl, hk⟩ := H
        obtain ⟨news, q1, q2, q3, q4⟩ := src_ok (P := P) hI hx hsrc h0 hxok
        have hnews : news = [] := List.eq_nil_of_length_eq_zero (by simpa using q1)
        subst hnews
        have hs0 := hs
        cases hs with
        | sl vals hcap hnil hsz hF hv hown =>
          rename_i base cap sz
          have hr := run_append_fits (P := P) (w := w) (ty := ty) ht hu (fun k e => hd k e) hn (base := base) (sLen := rows.length) (sCap := cap) (m := 0) (x := vx) (news := []) q3 (q4 w rfl) (by omega) (w' := w) (fun a _ => by simp [storeCells]) (fun _ => rfl)
          exact ⟨_, w, G, _, h, hr, Gh.le.refl G, hI, hs0, hk⟩
      | full =>
        have hle := hI.withAr_le ⟨rows.length, none⟩
        have hI' := hI.newArena rows.length
        have hs' : VR (G.withAr h.length ⟨rows.length, none⟩) (.sl rows (.arena h.length)) vs := by
          cases hs with
          | sl vals hcap hnil hsz hF hv hown =>
            refine .sl vals hcap hnil hsz (fun k r j c e e' => ?_) (fun k r j c e e' => (hv k r j c e e').mono hle) ⟨⟨rows.length, none⟩, by simp [Gh.withAr], Nat.le_refl _, fun _ => hown⟩
            obtain ⟨b, o, e1, e2⟩ := hF k r j c e e'
            exact ⟨b, o, e1, e2⟩
        have hsrc' : SrcIs x (h ++ [.arena rows.length]) xs := by
          unfold SrcIs at hsrc ⊢
          split at hsrc
          · exact hsrc
          · obtain ⟨cs, T, k1, k2⟩ := hsrc
            exact ⟨cs, T, by rw [List.getElem?_append_left (List.getElem?_eq_some_iff.1 k1).1]; exact k1, k2⟩
          · exact hsrc.elim
        have hset : (h ++ [AObj.arena rows.length]).set h.length (.arena (rows.length + xs.length)) = h ++ [.arena (rows.length + xs.length)] := by
          rw [List.set_append_right _ _ (Nat.le_refl _)]; simp
        obtain ⟨u', w', G', av, h', a1, a2, a3, a4, a5⟩ := key _ _ h.length vs vx hI' hs' (hx.mono hle) hsrc' (by simp) (by rw [hset]; exact H)
        exact ⟨u', w', G', av, h', a1, hle.trans a2, a3, a4, a5⟩
      | arena i =>
        simp only at H
        split at H
        · rename_i m hhi
          obtain ⟨rfl, hk⟩ := H
          exact key G h i vs vx hI hs hx hsrc hhi hk
        · exact H.elim
    · exact H.elim
  · exact H.elim
end
end Go.Abs
