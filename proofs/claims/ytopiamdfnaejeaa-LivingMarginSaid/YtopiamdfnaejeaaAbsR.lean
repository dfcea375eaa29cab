/- Values of which less is known; appending to a list of one's own. It says nothing of any program; no conditions. -/
import Derived.Test.YtopiamdfnaejeaaAbsP
set_option linter.unusedSimpArgs false
set_option linter.unusedVariables false
namespace Go.Abs
open Go Go.RowKit

mutual
/-- A value whose slices' owners are forgotten. -/
def loose : AV → AV
  | .agg cs => .agg (looseL cs)
  | .tuple cs => .tuple (looseL cs)
  | .sl rows _ => .sl (looseL rows) .free
  | .top => .top
  | .int k n => .int k n
  | .bool b => .bool b
  | .str s => .str s
  | .ptr p => .ptr p
  | .eptr cs => .eptr cs
  | .ms i off len cap sz => .ms i off len cap sz
  | .map r => .map r
  | .func f a b => .func f a b
  | .yield l => .yield l
  | .nilFunc => .nilFunc
  | .iface t v => .iface t v
  | .nilIface => .nilIface
def looseL : List AV → List AV
  | [] => []
  | a :: l => loose a :: looseL l
end
theorem looseL_map (l : List AV) : looseL l = l.map loose := by
  induction l with
  | nil => rfl
  | cons a l ih => simp [looseL, ih]
theorem loose_cells (a : AV) : (loose a).cells = a.cells.map loose := by
  cases a <;> first | rfl | simp [loose, AV.cells, looseL_map]

theorem loose_VR {G : Gh} {a : AV} {v : Value} (h : VR G a v) : VR G (loose a) v := by
  induction h with
  | top v => exact .top v
  | int k n => exact .int k n
  | bool b => exact .bool b
  | str s => exact .str s
  | ptrNil => exact .ptrNil
  | ptr h => exact .ptr h
  | eptr vals hF hv _ => exact .eptr vals hF hv
  | @sl rows own a cap sz vals hcap hnil hsz hF _ hown ih =>
    have hg : ∀ (k : Nat) (r : AV) (j : Nat) (c : AV), (looseL rows)[k]? = some r → r.cells[j]? = some c → ∃ r0 c0, rows[k]? = some r0 ∧ r0.cells[j]? = some c0 ∧ c = loose c0 := fun k r j c e e' => by
      rw [looseL_map, List.getElem?_map] at e
      obtain ⟨r0, h0, rfl⟩ := Option.map_eq_some_iff.1 e
      rw [loose_cells, List.getElem?_map] at e'
      obtain ⟨c0, h1, rfl⟩ := Option.map_eq_some_iff.1 e'
      exact ⟨r0, c0, h0, h1, rfl⟩
    have hl : (looseL rows).length = rows.length := by rw [looseL_map]; simp
    rw [loose, ← hl]
    exact .sl vals (by rw [hl]; exact hcap) hnil (fun k r e => by
      rw [looseL_map, List.getElem?_map] at e
      obtain ⟨r0, h0, rfl⟩ := Option.map_eq_some_iff.1 e
      rw [loose_cells, List.length_map]; exact hsz k r0 h0) (fun k r j c e e' => by
      obtain ⟨r0, c0, h0, h1, _⟩ := hg k r j c e e'
      exact hF k r0 j c0 h0 h1) (fun k r j c e e' => by
      obtain ⟨r0, c0, h0, h1, rfl⟩ := hg k r j c e e'
      exact ih k r0 j c0 h0 h1) trivial
  | ms h => exact .ms h
  | mapNil => exact .mapNil
  | map h => exact .map h
  | func hf hc h1 h2 _ _ => exact .func hf hc h1 h2
  | yield h => exact .yield h
  | nilFunc => exact .nilFunc
  | iface t h _ => exact .iface t h
  | nilIface => exact .nilIface
  | agg hl _ ih =>
    refine .agg (by rw [looseL_map]; simpa using hl) fun j c e => ?_
    rw [looseL_map, List.getElem?_map] at e
    obtain ⟨c0, h0, rfl⟩ := Option.map_eq_some_iff.1 e
    exact ih j c0 h0
  | tuple hl _ ih =>
    refine .tuple (by rw [looseL_map]; simpa using hl) fun j c e => ?_
    rw [looseL_map, List.getElem?_map] at e
    obtain ⟨c0, h0, rfl⟩ := Option.map_eq_some_iff.1 e
    exact ih j c0 h0

section
variable {P : Program} {Γ : Nat → Option (List AV)} {G : Gh} {h : AH} {w : World} {N : Nat} {σ : Tm} {Q : Exit → Tm → AH → Prop}

/-- **A contract for arguments of which more is known.** -/
theorem ACalls.ofLoose {f : FuncId} {as bs : List AV} {R : AV → AH → Prop} (H : ACalls P Γ f bs h R) (e : looseL as = bs) : ACalls P Γ f as h R :=
  ⟨H.1, fun G w vs hI hv => H.2 G w vs hI (by
    subst e
    refine ⟨by rw [looseL_map]; simpa using hv.1, fun j c e => ?_⟩
    rw [looseL_map, List.getElem?_map] at e
    obtain ⟨c0, h0, rfl⟩ := Option.map_eq_some_iff.1 e
    exact loose_VR (hv.2 j c0 h0))⟩
/-- **A contract that leaves the heap as it was**, the owners of what is handed back being forgotten. -/
theorem ACalls.dropL {f : FuncId} {args : List AV} {R : AV → Prop} (H : ACalls P Γ f args h fun v h' => (∃ l, h' = h ++ l) ∧ RB h.length (loose v) ∧ R (loose v)) : ACalls P Γ f args h fun v h' => h' = h ∧ R v :=
  ACalls.dropW (H.mono fun v h' e => ⟨e.1, loose v, fun _ _ hv => loose_VR hv, e.2⟩)

/-- Rows of which less is known. -/
def Loos (h h' : AH) : Prop := h'.length = h.length ∧ ∀ (i : Nat) (ob : AObj), h'[i]? = some ob → h[i]? = some ob ∨ ∃ cs T, h[i]? = some (.row cs T) ∧ ob = .row (looseL cs) T
theorem Loos.refl (h : AH) : Loos h h := ⟨rfl, fun _ _ e => .inl e⟩
theorem Loos.set {i : Nat} {cs : List AV} {T : TypeId} (e : h[i]? = some (.row cs T)) : Loos h (h.set i (.row (looseL cs) T)) := by
  refine ⟨by simp, fun j ob ej => ?_⟩
  rw [List.getElem?_set] at ej
  split at ej
  · rename_i hj; subst hj
    split at ej
    · cases ej; exact .inr ⟨cs, T, e, rfl⟩
    · cases ej
  · exact .inl ej
theorem Inv.loos {h' : AH} (hI : Inv Γ G h w) (hl : Loos h h') : Inv Γ G h' w :=
  { hI with
    obj := fun i ob e => by
      rcases hl.2 i ob e with e1 | ⟨cs, T, e1, rfl⟩
      · exact hI.obj i ob e1
      · obtain ⟨b, v, h1, h2, h3⟩ := hI.obj i _ e1
        refine ⟨b, v, h1, h2, by rw [looseL_map]; simpa using h3.1, fun j c e => ?_⟩
        rw [looseL_map, List.getElem?_map] at e
        obtain ⟨c0, h0, rfl⟩ := Option.map_eq_some_iff.1 e
        exact loose_VR (h3.2 j c0 h0)
    domρ := fun i b e => by rw [hl.1]; exact hI.domρ i b e
    sep := fun i b o v hf e e' => hI.sep i b o v (fun e'' => by
      have hi : i < h'.length := by rw [hl.1]; exact (List.getElem?_eq_some_iff.1 e'').1
      have ei : h'[i]? = some h'[i] := List.getElem?_eq_getElem hi
      rcases hl.2 i _ ei with e1 | ⟨cs, T, e1, _⟩
      · rw [e''] at e1
        exact hf (ei.trans e1.symm)
      · rw [e''] at e1; cases e1) e e'
    domA := fun i r e => by rw [hl.1]; exact hI.domA i r e }
/-- **A contract that leaves rows of which less is known.** -/
theorem ACalls.loos {f : FuncId} {args : List AV} {R : AV → AH → Prop} (H : ACalls P Γ f args h fun v h' => ∃ h3, Loos h' h3 ∧ R v h3) : ACalls P Γ f args h R :=
  ⟨H.1, fun G w vs hI hv => (H.2 G w vs hI hv).mono fun e w' hr => by
    obtain ⟨v, G', av, h', h1, h2, h3, h4, h5, h6, h7⟩ := hr
    exact ⟨v, G', av, h5, h1, h2, h3.loos h6, h4, h7⟩⟩

attribute [go_sem] loose looseL
theorem looseL_maps {α : Type} (f : α → AV) (hf : ∀ x, loose (f x) = f x) (l : List α) : looseL (l.map f) = l.map f := by
  rw [looseL_map, List.map_map]; congr 1; funext x; exact hf x

/-! ### Appending -/
/-- Who owns a list of one's own, of n elements, among the objects behind some others. -/
def OwnAt (K j : AH) (n : Nat) : Own → Prop
  | .full => True
  | .arena i => ∃ i', i = K.length + i' ∧ j[i']? = some (.arena n)
  | .free => False

/-- More objects, and arenas' entries turned. -/
def Grew (j j' : AH) : Prop := j.length ≤ j'.length ∧ ∀ (i : Nat) (o : AObj), j[i]? = some o → (∀ n, o ≠ .arena n) → j'[i]? = some o
theorem Grew.refl (j : AH) : Grew j j := ⟨Nat.le_refl _, fun _ _ e _ => e⟩

theorem OwnAt.app {K j : AH} {n : Nat} {own : Own} (ho : OwnAt K j n own) (l : AH) : OwnAt K (j ++ l) n own := by
  cases own with
  | full => trivial
  | free => exact ho
  | arena i =>
    obtain ⟨i', rfl, e⟩ := ho
    exact ⟨i', rfl, hget_left l e⟩

theorem aAp_at {n by_ : Nat} {rows xs : List AV} {own : Own} {x : AV} {K j : AH} {C : AV → AH → Prop} (ho : OwnAt K j rows.length own) (hx : SrcIs x (K ++ j) xs) (h1 : RowsOK n rows) (h2 : RowsOK n xs)
    (h3 : rows.length + xs.length ≤ 9223372036854775807) (h4 : (rows.length + xs.length) * by_ ≤ 140737488355328)
    (H : ∀ j' own', OwnAt K j' (rows.length + xs.length) own' → Grew j j' → C (.sl (rows ++ xs) own') (K ++ j')) : aAp (some (n, by_)) (.sl rows own) x (K ++ j) C := by
  refine ⟨xs, hx, h1, h2, h3, h4, ?_⟩
  cases own with
  | free => exact ho.elim
  | full =>
    have := H (j ++ [.arena (rows.length + xs.length)]) (.arena (K.length + j.length)) ⟨j.length, rfl, by simp⟩ ⟨by simp, fun i o e _ => hget_left _ e⟩
    simpa [List.append_assoc] using this
  | arena i =>
    obtain ⟨i', rfl, e⟩ := ho
    have e' : (K ++ j)[K.length + i']? = some (.arena rows.length) := by rw [hget_add]; exact e
    show (match (K ++ j)[K.length + i']? with
      | some (.arena m) => m = rows.length ∧ C (.sl (rows ++ xs) (.arena (K.length + i'))) ((K ++ j).set (K.length + i') (.arena (rows.length + xs.length)))
      | _ => False)
    rw [e']
    refine ⟨rfl, ?_⟩
    rw [hset_add]
    have hi : i' < j.length := (List.getElem?_eq_some_iff.1 e).1
    refine H _ _ ⟨i', rfl, by rw [List.getElem?_set_self hi]⟩ ⟨by simp, fun k o ek hk => ?_⟩
    rw [List.getElem?_set]
    split
    · rename_i hik
      subst hik
      rw [e] at ek; cases ek
      exact absurd rfl (hk _)
    · exact ek
theorem aAp_sl {n by_ : Nat} {rows xs : List AV} {own o : Own} {K j : AH} {C : AV → AH → Prop} (ho : OwnAt K j rows.length own) (h1 : RowsOK n rows) (h2 : RowsOK n xs)
    (h3 : rows.length + xs.length ≤ 9223372036854775807) (h4 : (rows.length + xs.length) * by_ ≤ 140737488355328)
    (H : ∀ j' own', OwnAt K j' (rows.length + xs.length) own' → Grew j j' → C (.sl (rows ++ xs) own') (K ++ j')) : aAp (some (n, by_)) (.sl rows own) (.sl xs o) (K ++ j) C :=
  aAp_at ho rfl h1 h2 h3 h4 H
theorem aAp_full {n by_ : Nat} {rows xs : List AV} {o : Own} {C : AV → AH → Prop} (h1 : RowsOK n rows) (h2 : RowsOK n xs)
    (h3 : rows.length + xs.length ≤ 9223372036854775807) (h4 : (rows.length + xs.length) * by_ ≤ 140737488355328)
    (H : C (.sl (rows ++ xs) (.arena h.length)) (h ++ [.arena (rows.length + xs.length)])) : aAp (some (n, by_)) (.sl rows .full) (.sl xs o) h C :=
  ⟨xs, rfl, h1, h2, h3, h4, H⟩
theorem aAp_arena {n by_ i : Nat} {rows xs : List AV} {o : Own} {C : AV → AH → Prop} (hi : h[i]? = some (.arena rows.length)) (h1 : RowsOK n rows) (h2 : RowsOK n xs)
    (h3 : rows.length + xs.length ≤ 9223372036854775807) (h4 : (rows.length + xs.length) * by_ ≤ 140737488355328)
    (H : C (.sl (rows ++ xs) (.arena i)) (h.set i (.arena (rows.length + xs.length)))) : aAp (some (n, by_)) (.sl rows (.arena i)) (.sl xs o) h C := by
  refine ⟨xs, rfl, h1, h2, h3, h4, ?_⟩
  show (match h[i]? with
    | some (.arena m) => m = rows.length ∧ _
    | _ => False)
  rw [hi]
  exact ⟨rfl, H⟩
/-! ### Lists whose elements' owners are forgotten -/
def looseIn : AV → AV
  | .sl rows own => .sl (looseL rows) own
  | v => loose v
theorem looseIn_VR {a : AV} {v : Value} (h : VR G a v) : VR G (looseIn a) v := by
  cases h with
  | @sl rows own a cap sz vals hcap hnil hsz hF hv hown =>
    have h0 := loose_VR (VR.sl vals hcap hnil hsz hF hv hown)
    have hl : (looseL rows).length = rows.length := by rw [looseL_map]; simp
    have hg : ∀ (k : Nat) (r : AV) (j : Nat) (c : AV), (looseL rows)[k]? = some r → r.cells[j]? = some c → ∃ r0 c0, rows[k]? = some r0 ∧ r0.cells[j]? = some c0 ∧ c = loose c0 := fun k r j c e e' => by
      rw [looseL_map, List.getElem?_map] at e
      obtain ⟨r0, h0, rfl⟩ := Option.map_eq_some_iff.1 e
      rw [loose_cells, List.getElem?_map] at e'
      obtain ⟨c0, h1, rfl⟩ := Option.map_eq_some_iff.1 e'
      exact ⟨r0, c0, h0, h1, rfl⟩
    rw [looseIn, ← hl]
    refine VR.sl (sz := sz) vals (by rw [hl]; exact hcap) hnil (fun k r e => ?_) (fun k r j c e e' => ?_) (fun k r j c e e' => ?_) ?_
    · rw [looseL_map, List.getElem?_map] at e
      obtain ⟨r0, h0, rfl⟩ := Option.map_eq_some_iff.1 e
      rw [loose_cells, List.length_map]; exact hsz k r0 h0
    · obtain ⟨r0, c0, h0, h1, _⟩ := hg k r j c e e'
      exact hF k r0 j c0 h0 h1
    · obtain ⟨r0, c0, h0, h1, rfl⟩ := hg k r j c e e'
      exact loose_VR (hv k r0 j c0 h0 h1)
    · cases own with
      | free => trivial
      | full => show cap = (looseL rows).length; rw [hl]; exact hown
      | arena j =>
        obtain ⟨r, k1, k2, k3⟩ := hown
        refine ⟨r, k1, by rw [hl]; exact k2, fun e => ?_⟩
        have := k3 (by rw [← hl]; exact e)
        cases hbk : r.blk with
        | none => rw [hbk] at this; exact this
        | some bb =>
          obtain ⟨b1, c1, s1, T1⟩ := bb
          rw [hbk] at this
          exact ⟨this.1, this.2.1, fun hne => this.2.2 (fun e0 => hne (by rw [e0]; rfl))⟩
  | _ => exact loose_VR (by constructor <;> assumption)
def lsn (σ : Tm) : Tm := σ.map fun p => (p.1, looseIn p.2)
@[go_sem] theorem lsn_nil : lsn [] = [] := rfl
@[go_sem] theorem lsn_cons (i : Nat) (v : AV) (σ : Tm) : lsn ((i, v) :: σ) = (i, looseIn v) :: lsn σ := rfl
@[go_sem] theorem looseIn_sl (rows : List AV) (own : Own) : looseIn (.sl rows own) = .sl (looseL rows) own := rfl
@[go_sem] theorem looseIn_int (k : IntKind) (n : Int) : looseIn (.int k n) = .int k n := rfl
@[go_sem] theorem looseIn_bool (b : Bool) : looseIn (.bool b) = .bool b := rfl
@[go_sem] theorem looseIn_ptr (p : Option (Nat × Nat)) : looseIn (.ptr p) = .ptr p := rfl
@[go_sem] theorem looseIn_ms (i o l c s : Nat) : looseIn (.ms i o l c s) = .ms i o l c s := rfl
@[go_sem] theorem looseIn_map (p : Option Nat) : looseIn (.map p) = .map p := rfl
@[go_sem] theorem looseIn_func (f : FuncId) (a b : List AV) : looseIn (.func f a b) = .func f a b := rfl
@[go_sem] theorem looseIn_yield (l : Nat) : looseIn (.yield l) = .yield l := rfl
@[go_sem] theorem looseIn_top : looseIn .top = .top := rfl
theorem lk_lsn (σ : Tm) (i : Nat) : lk (lsn σ) i = looseIn (lk σ i) := by
  induction σ with
  | nil => rfl
  | cons p σ ih =>
    obtain ⟨j, v⟩ := p
    rw [lsn_cons]
    simp only [lk]
    split
    · rfl
    · exact ih
theorem Wkt.lsn (σ : Tm) : Wkt σ (Abs.lsn σ) := fun G i v h => by rw [lk_lsn]; exact looseIn_VR h
theorem roundL_loose {α β : Type} {L : List Nat} {st : List α → β → Tm} {hp : β → AH} {inv : List α → List α → β → Prop} {don : List α} {x : α} {r : List α} (b : β) (h1 : inv (don ++ [x]) r b) (h2 : Abs.lsn (keep L σ) = st (don ++ [x]) b) (h3 : h = hp b) :
    roundL L st hp inv don x r Q .normal σ h := ⟨b, h1, h2 ▸ Wkt.lsn _, h3⟩
theorem roundS_loose {α : Type} {L : List Nat} {st : α → Tm} {hp : α → AH} {inv : α → Prop} {μ : α → Nat} {x : α} (y : α) (h1 : μ y < μ x) (h2 : inv y) (h3 : Abs.lsn (keep L σ) = st y) (h4 : h = hp y) :
    roundS L st hp inv μ x Q .normal σ h := ⟨y, h1, h2, h3 ▸ Wkt.lsn _, h4⟩
/-- Behind this point the owners of lists' elements are forgotten. -/
theorem AWP.lsn {c : Code} (H : AWP P Γ N c Q (Abs.lsn σ) h) : AWP P Γ N c Q σ h := H.wks (Wkt.lsn σ)
end
end Go.Abs
