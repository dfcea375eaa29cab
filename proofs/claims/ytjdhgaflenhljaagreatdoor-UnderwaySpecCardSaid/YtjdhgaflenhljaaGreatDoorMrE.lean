/- Texts joined: AbsN. No conditions. -/
import Derived.Test.YtjdhgaflenhljaaGreatDoorMrD
/- The rules by which a walk over abstract values is reckoned, as rewriting rules; a program's types as a table. It says nothing of any program; no conditions. -/
set_option linter.unusedSimpArgs false
set_option linter.unusedVariables false
namespace Go.Abs
open Go Go.RowKit

/-! ### A program's types as a table -/
/-- A field's place: offset and type. -/
def tfd (P : Program) (t : TypeId) (f : Nat) : Option (Nat × TypeId) := match P.underlying t with
  | some (.struct fields) => (fields[f]?).map fun fd => (fd.offset, fd.type)
  | _ => none
/-- A field's offset, where it has cells. -/
def tfo (P : Program) (t : TypeId) (f : Nat) : Option Nat := match tfd P t f with
  | some (o, u) => (match tsz P u with
    | some (_ + 1) => some o
    | _ => none)
  | none => none
/-- Reading a type: as an aggregate of n cells, or as one cell. -/
def tag (P : Program) (t : TypeId) : Option (Option Nat) := match P.underlying t with
  | none => none
  | some d => if aggD d then (tsz P t).map some else some none
/-- An element's size: of a slice (no length), of an array. -/
def tel (P : Program) (t : TypeId) : Option (Option Nat × Nat) := match P.underlying t with
  | some (.slice e) => (tsz P e).map fun n => (none, n)
  | some (.array len e) => (tsz P e).map fun n => (some len, n)
  | _ => none
/-- The zero value's cells. -/
def tzc (P : Program) (t : TypeId) : Option (List AV) := (tzero P t).map fun z => z.cells.toList.map ofV1
/-- A map's keys (are they integers, or strings) and the zero value of its elements. -/
def tmk (P : Program) (t : TypeId) : Option (Bool × AV) := match P.underlying t with
  | some (.map kt et) => (match P.underlying kt, tzero P et with
    | some (.int _), some z => some (true, ofV z)
    | some .string, some z => some (false, ofV z)
    | _, _ => none)
  | _ => none
/-- What may be cut: a string, or a slice of elements of this size. -/
def tcut (P : Program) (t : TypeId) : Option (Option Nat) := match P.underlying t with
  | some .string => some none
  | some (.slice e) => (tsz P e).map some
  | _ => none
/-- What append wants of a slice's type: an element's cells and bytes. -/
def tap (P : Program) (t : TypeId) : Option (Nat × Nat) := match P.underlying t with
  | some (.slice e) => (match tsz P e, tbytes P e, tzero P e with
    | some n, some by_, some z => if n ≠ 0 ∧ z.cells.size = n then some (n, by_) else none
    | _, _, _ => none)
  | _ => none
/-- What arrays of one's own want of a slice's type: an element's cells and bytes, its zero, its type. -/
def tms (P : Program) (t : TypeId) : Option (Nat × Nat × List AV × TypeId) := match P.underlying t with
  | some (.slice e) => (match tsz P e, tbytes P e, tzero P e with
    | some n, some by_, some z => if n ≠ 0 ∧ z.cells.size = n ∧ z.cells.toList.all (·.oneCell') = true then some (n, by_, z.cells.toList.map ofV1, e) else none
    | _, _, _ => none)
  | _ => none
/-- Is it a slice or a string (what may be appended)? -/
def tsrc (P : Program) (t : TypeId) : Bool := match P.underlying t with
  | some (.int _) => false
  | some _ => true
  | none => false
/-- The places of a struct's fields. -/
def tpl (P : Program) (t : TypeId) : Option (List (Nat × Nat)) := match P.underlying t with
  | some (.struct fields) => aPlaces P fields.toList
  | _ => none
/-- What a slice's literal wants: an element's cells. -/
def tbs (P : Program) (t : TypeId) : Option Nat := match P.underlying t with
  | some (.slice e) => (match tsz P e, tzero P e with
    | some n, some z => if n ≠ 0 ∧ z.cells.size = n then some n else none
    | _, _ => none)
  | _ => none
/-- The length of what. -/
inductive LenOf where
  | str | sl | arr (n : Nat) | map
def tlen (P : Program) (t : TypeId) : Option LenOf := match P.underlying t with
  | some .string => some .str
  | some (.slice _) => some .sl
  | some (.array n _) => some (.arr n)
  | some (.map _ _) => some .map
  | _ => none
/-- What a conversion ends at. -/
def tcv (P : Program) (s t : TypeId) : Option (Option IntKind) := match P.underlying s, P.underlying t with
  | some _, some (.int k) => some (some k)
  | some _, some .string => some none
  | _, _ => none
def tbool (P : Program) (t : TypeId) : Bool := match P.underlying t with
  | some .bool => true
  | _ => false

/-! ### Lists, heaps -/
theorem hget_add (h l : AH) (k : Nat) : (h ++ l)[h.length + k]? = l[k]? := by
  rw [List.getElem?_append_right (Nat.le_add_right ..), Nat.add_sub_cancel_left]
theorem hget_zero (h l : AH) : (h ++ l)[h.length]? = l[0]? := hget_add h l 0
theorem hset_add (h l : AH) (k : Nat) (o : AObj) : (h ++ l).set (h.length + k) o = h ++ l.set k o := by
  rw [List.set_append_right _ _ (Nat.le_add_right ..), Nat.add_sub_cancel_left]
theorem hset_zero (h l : AH) (o : AObj) : (h ++ l).set h.length o = h ++ l.set 0 o := hset_add h l 0 o
theorem happ (h l m : AH) : (h ++ l) ++ m = h ++ (l ++ m) := List.append_assoc ..
theorem hlen (h l : AH) : (h ++ l).length = h.length + l.length := List.length_append
theorem hget_left {h : AH} {i : Nat} (l : AH) {o : AObj} (e : h[i]? = some o) : (h ++ l)[i]? = some o := by
  rw [List.getElem?_append_left (List.getElem?_eq_some_iff.1 e).1]; exact e
theorem lidx (l r : List AV) (x : AV) : (l ++ x :: r)[l.length]? = some x := by simp
theorem lidx_map {α : Type} (f : α → AV) (l : List α) (r : List AV) (x : AV) : (l.map f ++ x :: r)[l.length]? = some x := by
  have := lidx (l.map f) r x
  rwa [List.length_map] at this
theorem keep_cons (i : Nat) (L : List Nat) (σ : Tm) : keep (i :: L) σ = (i, lk σ i) :: keep L σ := (rfl)
theorem keep_nil (σ : Tm) : keep [] σ = [] := (rfl)
theorem argsT_cons (i : Nat) (a : AV) (r : List AV) : argsT i (a :: r) = (i, a) :: argsT (i + 1) r := (rfl)
theorem argsT_nil (i : Nat) : argsT i [] = [] := (rfl)

theorem wrap_i64 (n : Int) (h1 : -9223372036854775808 ≤ n) (h2 : n ≤ 9223372036854775807) : IntKind.i64.wrap n = n := IntWalk.i64_in n ⟨h1, h2⟩

theorem splice_one (cs : List AV) (o : Nat) (x : AV) : splice cs o [x] = cs.set o x := (rfl)
theorem splice_two (cs : List AV) (o : Nat) (x y : AV) (r : List AV) : splice cs o (x :: y :: r) = cs.take o ++ (x :: y :: r) ++ cs.drop (o + (x :: y :: r).length) := (rfl)
theorem splice_none (cs : List AV) (o : Nat) : splice cs o [] = cs.take o ++ [] ++ cs.drop (o + 0) := (rfl)

theorem cells_agg (cs : List AV) : (AV.agg cs).cells = cs := (rfl)
theorem good_agg (cs : List AV) : (AV.agg cs).good = cs.all AV.one := (rfl)
theorem one_agg (cs : List AV) : (AV.agg cs).one = false := (rfl)
theorem cells_int (k : IntKind) (n : Int) : (AV.int k n).cells = [AV.int k n] := (rfl)
theorem good_int (k : IntKind) (n : Int) : (AV.int k n).good = true := (rfl)
theorem one_int (k : IntKind) (n : Int) : (AV.int k n).one = true := (rfl)
theorem cells_bool (b : Bool) : (AV.bool b).cells = [AV.bool b] := (rfl)
theorem good_bool (b : Bool) : (AV.bool b).good = true := (rfl)
theorem one_bool (b : Bool) : (AV.bool b).one = true := (rfl)
theorem cells_str (s : ByteArray) : (AV.str s).cells = [AV.str s] := (rfl)
theorem good_str (s : ByteArray) : (AV.str s).good = true := (rfl)
theorem one_str (s : ByteArray) : (AV.str s).one = true := (rfl)
theorem cells_ptr (p : Option (Nat × Nat)) : (AV.ptr p).cells = [AV.ptr p] := (rfl)
theorem good_ptr (p : Option (Nat × Nat)) : (AV.ptr p).good = true := (rfl)
theorem one_ptr (p : Option (Nat × Nat)) : (AV.ptr p).one = true := (rfl)
theorem cells_eptr (cs : List AV) : (AV.eptr cs).cells = [AV.eptr cs] := (rfl)
theorem good_eptr (cs : List AV) : (AV.eptr cs).good = true := (rfl)
theorem one_eptr (cs : List AV) : (AV.eptr cs).one = true := (rfl)
theorem cells_sl (r : List AV) (o : Own) : (AV.sl r o).cells = [AV.sl r o] := (rfl)
theorem good_sl (r : List AV) (o : Own) : (AV.sl r o).good = true := (rfl)
theorem one_sl (r : List AV) (o : Own) : (AV.sl r o).one = true := (rfl)
theorem cells_ms (i o l c s : Nat) : (AV.ms i o l c s).cells = [AV.ms i o l c s] := (rfl)
theorem good_ms (i o l c s : Nat) : (AV.ms i o l c s).good = true := (rfl)
theorem one_ms (i o l c s : Nat) : (AV.ms i o l c s).one = true := (rfl)
theorem cells_map (r : Option Nat) : (AV.map r).cells = [AV.map r] := (rfl)
theorem good_map (r : Option Nat) : (AV.map r).good = true := (rfl)
theorem one_map (r : Option Nat) : (AV.map r).one = true := (rfl)
theorem cells_func (f : FuncId) (a b : List AV) : (AV.func f a b).cells = [AV.func f a b] := (rfl)
theorem good_func (f : FuncId) (a b : List AV) : (AV.func f a b).good = true := (rfl)
theorem one_func (f : FuncId) (a b : List AV) : (AV.func f a b).one = true := (rfl)
theorem cells_yield (l : Nat) : (AV.yield l).cells = [AV.yield l] := (rfl)
theorem good_yield (l : Nat) : (AV.yield l).good = true := (rfl)
theorem one_yield (l : Nat) : (AV.yield l).one = true := (rfl)
theorem cells_nilFunc  : AV.nilFunc.cells = [AV.nilFunc] := (rfl)
theorem good_nilFunc  : AV.nilFunc.good = true := (rfl)
theorem one_nilFunc  : AV.nilFunc.one = true := (rfl)
theorem cells_iface (t : TypeId) (v : AV) : (AV.iface t v).cells = [AV.iface t v] := (rfl)
theorem good_iface (t : TypeId) (v : AV) : (AV.iface t v).good = true := (rfl)
theorem one_iface (t : TypeId) (v : AV) : (AV.iface t v).one = true := (rfl)
theorem cells_nilIface  : AV.nilIface.cells = [AV.nilIface] := (rfl)
theorem good_nilIface  : AV.nilIface.good = true := (rfl)
theorem one_nilIface  : AV.nilIface.one = true := (rfl)
attribute [go_sem] cells_agg good_agg one_agg cells_int good_int one_int cells_bool good_bool one_bool cells_str good_str one_str cells_ptr good_ptr one_ptr cells_eptr good_eptr one_eptr cells_sl good_sl one_sl cells_ms good_ms one_ms cells_map good_map one_map cells_func good_func one_func cells_yield good_yield one_yield cells_nilFunc good_nilFunc one_nilFunc cells_iface good_iface one_iface cells_nilIface good_nilIface one_nilIface
attribute [go_sem] hget_add hget_zero hset_add hset_zero happ hlen lidx lidx_map keep_cons keep_nil argsT_cons argsT_nil splice_one splice_two splice_none
attribute [go_sem] List.all_cons List.all_nil Bool.and_true Bool.true_and Bool.and_false Bool.false_and Bool.or_true Bool.true_or Bool.or_false Bool.false_or Bool.not_true Bool.not_false true_and and_true and_self
  List.getElem?_cons_zero List.getElem?_cons_succ List.length_cons List.length_nil List.take_succ_cons List.take_zero List.drop_succ_cons List.drop_zero
  List.map_cons List.map_nil List.cons_append List.nil_append List.append_nil List.set_cons_zero List.set_cons_succ Option.bind_some Option.bind_none Option.map_some Option.map_none AV.agg.injEq exists_eq' true_or or_true
  Nat.le_refl Int.toNat_natCast Int.toNat_zero List.length_map Int.add_sub_cancel Int.lt_irrefl Int.natCast_nonneg Int.natCast_add Int.cast_ofNat_Int Int.natCast_one ne_eq not_false_eq_true not_true_eq_false

section
variable {P : Program} {Γ : Nat → Option (List AV)} {N : Nat} {σ σ' : Tm} {h h' : AH}

/-! ### Operands, temporaries -/
@[go_sem] theorem ev_tmp (t : Nat) : ev Γ σ (.tmp t) = lk σ t := (rfl)
@[go_sem] theorem ev_func (f : FuncId) : ev Γ σ (.func f) = .func f [] [] := (rfl)
@[go_sem] theorem ev_int (k : IntKind) (n : Int) : ev Γ σ (.const (.int k n)) = .int k n := (rfl)
@[go_sem] theorem ev_bool (b : Bool) : ev Γ σ (.const (.bool b)) = .bool b := (rfl)
@[go_sem] theorem ev_str (s : ByteArray) : ev Γ σ (.const (.string s)) = .str s := (rfl)
@[go_sem] theorem ev_nilSlice : ev Γ σ (.const (.slice none 0 0)) = .sl [] .full := (rfl)
@[go_sem] theorem ev_nilPtr : ev Γ σ (.const (.pointer none)) = .ptr none := (rfl)
@[go_sem] theorem ev_nilMap : ev Γ σ (.const (.map none)) = .map none := (rfl)
@[go_sem] theorem ev_nilFunc : ev Γ σ (.const .nilFunc) = .nilFunc := (rfl)
@[go_sem] theorem ev_nilIface : ev Γ σ (.const .nilIface) = .nilIface := (rfl)
@[go_sem] theorem ev_agg (cs : Array Value) : ev Γ σ (.const (.agg cs)) = .agg (cs.toList.map ofV1) := (rfl)
@[go_sem] theorem of1_int (k : IntKind) (n : Int) : ofV1 (.int k n) = .int k n := (rfl)
@[go_sem] theorem of1_bool (b : Bool) : ofV1 (.bool b) = .bool b := (rfl)
@[go_sem] theorem of1_str (s : ByteArray) : ofV1 (.string s) = .str s := (rfl)
@[go_sem] theorem of1_nilSlice : ofV1 (.slice none 0 0) = .sl [] .full := (rfl)
@[go_sem] theorem of1_nilPtr : ofV1 (.pointer none) = .ptr none := (rfl)
@[go_sem] theorem of1_nilMap : ofV1 (.map none) = .map none := (rfl)
@[go_sem] theorem of1_nilFunc : ofV1 .nilFunc = .nilFunc := (rfl)
@[go_sem] theorem of1_nilIface : ofV1 .nilIface = .nilIface := (rfl)
@[go_sem] theorem put_some (d : Nat) (v : AV) : put (some d) v σ = (d, v) :: σ := (rfl)
@[go_sem] theorem put_none (v : AV) : put none v σ = σ := (rfl)
@[go_sem] theorem lk_cons (j : Nat) (v : AV) (i : Nat) : lk ((j, v) :: σ) i = if i = j then v else lk σ i := (rfl)
@[go_sem] theorem evs_nil : ([] : List Operand).map (ev Γ σ) = [] := (rfl)
@[go_sem] theorem evParts_arr (l : List (Nat × Operand)) : evParts Γ σ l.toArray = l.map fun p => (p.1, ev Γ σ p.2) := (rfl)

/-! ### What comes next, by name: nothing is reckoned inside it before its turn -/
abbrev KT := AV → Tm → AH → Prop
def conA (K : KT) (σ : Tm) (v : AV) (h : AH) : Prop := K v σ h
def conV (K : KT) (σ : Tm) (h : AH) (v : AV) : Prop := K v σ h
def conS (K : KT) (σ : Tm) (h : AH) : Prop := K (.tuple []) σ h
def conDA (K : KT) (σ : Tm) (h : AH) (v : AV) (h' : AH) : Prop := h' = h ∧ K v σ h
def conDS (K : KT) (σ : Tm) (h : AH) (h' : AH) : Prop := h' = h ∧ K (.tuple []) σ h
def wrB : Builtin → Bool
  | .append => true
  | .clear => true
  | _ => false
def conBb (b : Bool) (K : KT) (σ : Tm) (h : AH) (v : AV) (h' : AH) : Prop := if b then K v σ h' else h' = h ∧ K v σ h
@[go_sem] theorem wrB_append : wrB .append = true := (rfl)
@[go_sem] theorem wrB_clear : wrB .clear = true := (rfl)
@[go_sem] theorem wrB_len : wrB .len = false := (rfl)
@[go_sem] theorem wrB_cap : wrB .cap = false := (rfl)
@[go_sem] theorem wrB_min : wrB .min = false := (rfl)
@[go_sem] theorem wrB_max : wrB .max = false := (rfl)
@[go_sem] theorem wrB_copy : wrB .copy = false := (rfl)
@[go_sem] theorem wrB_delete : wrB .delete = false := (rfl)
@[go_sem] theorem conBb_true (K : KT) : conBb true K σ h = conA K σ := (rfl)
@[go_sem] theorem conBb_false (K : KT) : conBb false K σ h = conDA K σ h := by funext v h'; simp [conBb, conDA]
def conH (K : AV → AH → Prop) (h : AH) (v : AV) : Prop := K v h
def conSet (K : AH → Prop) (h : AH) (i : Nat) (ob : AObj) : Prop := K (h.set i ob)
def conAgg (K : AV → Prop) (cs : List AV) : Prop := K (.agg cs)
def conR (R : AV → AH → Prop) (h : AH) (vs : List AV) : Prop := R (oneOf vs) h
def conCons (k : List AV → Prop) (v : AV) (vs : List AV) : Prop := k (v :: vs)
def conRes (P : Program) (σ : Tm) (h : AH) (r : List ResultVar) (k : List AV → Prop) (v : AV) (_ : AH) : Prop := aResL P σ h r (conCons k v)
@[go_sem] theorem conA_eq (K : KT) (v : AV) : conA K σ v h = K v σ h := (rfl)
@[go_sem] theorem conV_eq (K : KT) (v : AV) : conV K σ h v = K v σ h := (rfl)
@[go_sem] theorem conS_eq (K : KT) : conS K σ h = K (.tuple []) σ h := (rfl)
@[go_sem] theorem conDA_eq (K : KT) (v : AV) : conDA K σ h v h' = (h' = h ∧ K v σ h) := (rfl)
@[go_sem] theorem conDS_eq (K : KT) : conDS K σ h h' = (h' = h ∧ K (.tuple []) σ h) := (rfl)
@[go_sem] theorem conH_eq (K : AV → AH → Prop) (v : AV) : conH K h v = K v h := (rfl)
@[go_sem] theorem conSet_eq (K : AH → Prop) (i : Nat) (ob : AObj) : conSet K h i ob = K (h.set i ob) := (rfl)
@[go_sem] theorem conAgg_eq (K : AV → Prop) (cs : List AV) : conAgg K cs = K (.agg cs) := (rfl)
@[go_sem] theorem conR_eq (R : AV → AH → Prop) (vs : List AV) : conR R h vs = R (oneOf vs) h := (rfl)
@[go_sem] theorem conCons_eq (k : List AV → Prop) (v : AV) (vs : List AV) : conCons k v vs = k (v :: vs) := (rfl)
@[go_sem] theorem conRes_eq (r : List ResultVar) (k : List AV → Prop) (v : AV) : conRes P σ h r k v h' = aResL P σ h r (conCons k v) := (rfl)

/-! ### Branches -/
abbrev KB := Tm → AH → Prop
/-- A branch by a value that is a bool. -/
def aBr (v : AV) (want : Bool) (F1 : KB) (s1 : Tm) (F2 : KB) (s2 : Tm) (h : AH) : Prop := aBool v want (F1 s1 h) (F2 s2 h)
/-- A branch by a proposition. -/
def aIf (p : Prop) (F1 : KB) (s1 : Tm) (F2 : KB) (s2 : Tm) (h : AH) : Prop := (p → F1 s1 h) ∧ (¬ p → F2 s2 h)
section
variable {F1 F2 : KB} {s1 s2 : Tm}
@[go_sem] theorem aBr_tt : aBr (.bool true) true F1 s1 F2 s2 h = F1 s1 h := by simp [aBr, aBool, aGuard]
@[go_sem] theorem aBr_ff : aBr (.bool false) false F1 s1 F2 s2 h = F1 s1 h := by simp [aBr, aBool, aGuard]
@[go_sem] theorem aBr_tf : aBr (.bool true) false F1 s1 F2 s2 h = F2 s2 h := by simp [aBr, aBool, aGuard]
@[go_sem] theorem aBr_ft : aBr (.bool false) true F1 s1 F2 s2 h = F2 s2 h := by simp [aBr, aBool, aGuard]
@[go_sem] theorem aIf_true : aIf True F1 s1 F2 s2 h = F1 s1 h := by simp [aIf]
@[go_sem] theorem aIf_false : aIf False F1 s1 F2 s2 h = F2 s2 h := by simp [aIf]
@[go_sem] theorem aIf_not (p : Prop) : aIf (¬ p) F1 s1 F2 s2 h = aIf p F2 s2 F1 s1 h := by
  unfold aIf
  exact propext ⟨fun h => ⟨fun hp => h.2 fun hn => hn hp, h.1⟩, fun h => ⟨h.2, fun hn => Classical.byContradiction fun hb => hn fun hp => hb (h.1 hp)⟩⟩
@[go_sem] theorem aBr_dec (p : Prop) [Decidable p] : aBr (.bool (decide p)) true F1 s1 F2 s2 h = aIf p F1 s1 F2 s2 h := by simp [aBr, aBool, aGuard, aIf]
@[go_sem] theorem aBr_decf (p : Prop) [Decidable p] : aBr (.bool (decide p)) false F1 s1 F2 s2 h = aIf p F2 s2 F1 s1 h := by
  simp only [aBr, aBool, aGuard, aIf, decide_eq_false_iff_not, Bool.not_false, decide_eq_true_eq]; exact propext ⟨fun h => ⟨h.2, h.1⟩, fun h => ⟨h.2, h.1⟩⟩
@[go_sem] theorem aBr_not (b w : Bool) : aBr (.bool (!b)) w F1 s1 F2 s2 h = aBr (.bool b) w F2 s2 F1 s1 h := by cases b <;> cases w <;> simp [aBr, aBool, aGuard]
theorem aIf.intro {p : Prop} (h1 : p → F1 s1 h) (h2 : ¬ p → F2 s2 h) : aIf p F1 s1 F2 s2 h := ⟨h1, h2⟩
theorem aBr.intro {b w : Bool} (h1 : b = w → F1 s1 h) (h2 : b = !w → F2 s2 h) : aBr (.bool b) w F1 s1 F2 s2 h := ⟨h1, h2⟩
theorem aIf.pos {p : Prop} (hp : p) (h1 : F1 s1 h) : aIf p F1 s1 F2 s2 h := ⟨fun _ => h1, fun hn => absurd hp hn⟩
theorem aIf.neg {p : Prop} (hp : ¬ p) (h1 : F2 s2 h) : aIf p F1 s1 F2 s2 h := ⟨fun hn => absurd hn hp, fun _ => h1⟩
end
def aBrG (v : AV) (want : Bool) (F1 : KB) (s1 : Tm) (F2 : KB) (s2 s3 : Tm) (h : AH) : Prop := aBoolG v want (F1 s1 h) (F2 s2 h) (F2 s3 h)
@[go_sem] theorem aBrG_bool {F1 F2 : KB} {s1 s2 s3 : Tm} (b want : Bool) : aBrG (.bool b) want F1 s1 F2 s2 s3 h = aBr (.bool b) want F1 s1 F2 s2 h := (rfl)
@[go_sem] theorem aBrG_none {F1 F2 : KB} {s1 s2 s3 : Tm} (want : Bool) : aBrG (.tuple []) want F1 s1 F2 s2 s3 h = F2 s3 h := (rfl)
def aGd (d : Option Tmp) (want : Bool) (F1 F2 : KB) (σ : Tm) (h : AH) : Prop := aDst d fun t => aBrG (lk σ t) want F1 ((t, .bool want) :: σ) F2 ((t, .bool (!want)) :: σ) σ h
@[go_sem] theorem aGd_some (t : Tmp) (want : Bool) (F1 F2 : KB) : aGd (some t) want F1 F2 σ h = aBrG (lk σ t) want F1 ((t, .bool want) :: σ) F2 ((t, .bool (!want)) :: σ) σ h := (rfl)
@[go_sem ↓] theorem dstAt_zero (d : Option Tmp) (op : Op) (ty : TypeId) (pos : String) (after : Array Edge) (g : Option (Nat × Bool)) (r : List Oper) : dstAt ({ dst := d, op := op, type := ty, pos := pos, after := after, guard := g } :: r) 0 = d := (rfl)
@[go_sem ↓] theorem dstAt_succ (o : Oper) (r : List Oper) (n : Nat) : dstAt (o :: r) (n + 1) = dstAt r n := (rfl)

/-! ### Code -/
@[go_sem] theorem aCode_skip (Q : Exit → Tm → AH → Prop) : aCode P Γ N .skip Q σ h = Q .normal σ h := (rfl)
@[go_sem] theorem aCode_label (l : Nat) (Q : Exit → Tm → AH → Prop) : aCode P Γ N (.label l) Q σ h = Q .normal σ h := (rfl)
@[go_sem] theorem aCode_exit (l : Nat) (Q : Exit → Tm → AH → Prop) : aCode P Γ N (.exit l) Q σ h = Q (.exit l) σ h := (rfl)
@[go_sem] theorem aCode_goto (l : Nat) (Q : Exit → Tm → AH → Prop) : aCode P Γ N (.goto l) Q σ h = Q (.goto l) σ h := (rfl)
@[go_sem] theorem aCode_ret (Q : Exit → Tm → AH → Prop) : aCode P Γ N .ret Q σ h = Q .ret σ h := (rfl)
@[go_sem] theorem aCode_region (id : Nat) (l : List Oper) (Q : Exit → Tm → AH → Prop) : aCode P Γ N (.region id l.toArray false) Q σ h = aOps P Γ l (Q .normal) l σ h := (rfl)
@[go_sem] theorem aCode_draw (id : Nat) (l : List Oper) (Q : Exit → Tm → AH → Prop) : aCode P Γ N (.region id l.toArray true) Q σ h = (Sep σ (sepsX l l) ∧ aDets P Γ l (Q .normal) l σ h) := (rfl)
@[go_sem ↓] theorem sepsX_nil (ops : List Oper) : sepsX ops [] = [] := (rfl)
@[go_sem ↓] theorem sepsX_cons (ops : List Oper) (d : Option Tmp) (op : Op) (ty : TypeId) (pos : String) (after : Array Edge) (g : Option (Nat × Bool)) (r : List Oper) : sepsX ops ({ dst := d, op := op, type := ty, pos := pos, after := after, guard := g } :: r) = stK op ops (sepsX ops r) := (rfl)
@[go_sem ↓] theorem ldsX_nil (ops : List Oper) (s : Nat) : ldsX ops s [] = [] := (rfl)
@[go_sem ↓] theorem ldsX_cons (ops : List Oper) (s : Nat) (d : Option Tmp) (op : Op) (ty : TypeId) (pos : String) (after : Array Edge) (g : Option (Nat × Bool)) (r : List Oper) : ldsX ops s ({ dst := d, op := op, type := ty, pos := pos, after := after, guard := g } :: r) = ldK op ops s (ldsX ops s r) := (rfl)
@[go_sem ↓] theorem hasD_nil (s : Nat) : hasD s [] = false := (rfl)
@[go_sem ↓] theorem hasD_some (s d : Nat) (op : Op) (ty : TypeId) (pos : String) (after : Array Edge) (g : Option (Nat × Bool)) (r : List Oper) : hasD s ({ dst := some d, op := op, type := ty, pos := pos, after := after, guard := g } :: r) = if d = s then true else hasD s r := by
  show ((some d == some s) || hasD s r) = _
  by_cases e : d = s <;> simp [e]
@[go_sem ↓] theorem hasD_none (s : Nat) (op : Op) (ty : TypeId) (pos : String) (after : Array Edge) (g : Option (Nat × Bool)) (r : List Oper) : hasD s ({ dst := none, op := op, type := ty, pos := pos, after := after, guard := g } :: r) = hasD s r := by
  show ((none == some s) || hasD s r) = _
  rfl
@[go_sem ↓] theorem opsapp_nil (l : List Oper) : List.append [] l = l := (rfl)
@[go_sem ↓] theorem opsapp_cons (a : Oper) (r l : List Oper) : List.append (a :: r) l = a :: List.append r l := (rfl)
@[go_sem] theorem ite_ff (a b : List (Nat × Nat)) : (if false = true then a else b) = b := (rfl)
@[go_sem] theorem ite_tt (a b : List (Nat × Nat)) : (if true = true then a else b) = a := (rfl)
@[go_sem] theorem app_pairs (l : List (Nat × Nat)) : [] ++ l = l := (rfl)
@[go_sem] theorem app_pairc (a : Nat × Nat) (l m : List (Nat × Nat)) : (a :: l) ++ m = a :: (l ++ m) := (rfl)
@[go_sem] theorem Sep_nil : Sep σ [] = True := (rfl)
@[go_sem] theorem Sep_cons (s s' : Nat) (l : List (Nat × Nat)) : Sep σ ((s, s') :: l) = (rowsNe (lk σ s) (lk σ s') ∧ Sep σ l) := (rfl)
@[go_sem] theorem rowsNe_ptr (i o j o' : Nat) (e : i ≠ j) : rowsNe (.ptr (some (i, o))) (.ptr (some (j, o'))) = True := eq_true e
@[go_sem] theorem rowsNe_eptr (cs : List AV) (b : AV) : rowsNe (.eptr cs) b = True := (rfl)
@[go_sem ↓] theorem stK_store (t : TypeId) (s' : Nat) (x : Operand) (ops : List Oper) (l : List (Nat × Nat)) : stK (.store t (.tmp s') x) ops l = if hasD s' ops = true then l else ldsX ops s' ops ++ l := by
  show (bif hasD s' ops then l else ldsX ops s' ops ++ l) = _
  cases hasD s' ops <;> rfl
@[go_sem ↓] theorem ldK_load (t : TypeId) (s s' : Nat) (ops : List Oper) (l : List (Nat × Nat)) : ldK (.load t (.tmp s)) ops s' l = if s = s' then l else (if hasD s ops = true then l else (s, s') :: l) := by
  show (bif (s == s' || hasD s ops) then l else (s, s') :: l) = _
  by_cases e : s = s'
  · simp [e]
  · simp only [if_neg e]
    have : (s == s') = false := by simp [e]
    rw [this]; cases hasD s ops <;> rfl
@[go_sem ↓] theorem stK_move (x : Operand) (ops : List Oper) (l : List (Nat × Nat)) : stK (.move x) ops l = l := (rfl)
@[go_sem ↓] theorem ldK_move (x : Operand) (ops : List Oper) (s : Nat) (l : List (Nat × Nat)) : ldK (.move x) ops s l = l := (rfl)
@[go_sem ↓] theorem stK_assign (x : Operand) (ops : List Oper) (l : List (Nat × Nat)) : stK (.assign x) ops l = l := (rfl)
@[go_sem ↓] theorem ldK_assign (x : Operand) (ops : List Oper) (s : Nat) (l : List (Nat × Nat)) : ldK (.assign x) ops s l = l := (rfl)
@[go_sem ↓] theorem stK_pick (x y z : Operand) (ops : List Oper) (l : List (Nat × Nat)) : stK (.pick x y z) ops l = l := (rfl)
@[go_sem ↓] theorem ldK_pick (x y z : Operand) (ops : List Oper) (s : Nat) (l : List (Nat × Nat)) : ldK (.pick x y z) ops s l = l := (rfl)
@[go_sem ↓] theorem stK_alloc (x : TypeId) (ops : List Oper) (l : List (Nat × Nat)) : stK (.alloc x) ops l = l := (rfl)
@[go_sem ↓] theorem ldK_alloc (x : TypeId) (ops : List Oper) (s : Nat) (l : List (Nat × Nat)) : ldK (.alloc x) ops s l = l := (rfl)
@[go_sem ↓] theorem stK_box (x : TypeId) (y : Operand) (ops : List Oper) (l : List (Nat × Nat)) : stK (.box x y) ops l = l := (rfl)
@[go_sem ↓] theorem ldK_box (x : TypeId) (y : Operand) (ops : List Oper) (s : Nat) (l : List (Nat × Nat)) : ldK (.box x y) ops s l = l := (rfl)
@[go_sem ↓] theorem stK_build (x : TypeId) (y : Array (Nat × Operand)) (ops : List Oper) (l : List (Nat × Nat)) : stK (.build x y) ops l = l := (rfl)
@[go_sem ↓] theorem ldK_build (x : TypeId) (y : Array (Nat × Operand)) (ops : List Oper) (s : Nat) (l : List (Nat × Nat)) : ldK (.build x y) ops s l = l := (rfl)
@[go_sem ↓] theorem stK_buildSlice (x : TypeId) (y : Nat) (z : Array (Nat × Operand)) (ops : List Oper) (l : List (Nat × Nat)) : stK (.buildSlice x y z) ops l = l := (rfl)
@[go_sem ↓] theorem ldK_buildSlice (x : TypeId) (y : Nat) (z : Array (Nat × Operand)) (ops : List Oper) (s : Nat) (l : List (Nat × Nat)) : ldK (.buildSlice x y z) ops s l = l := (rfl)
@[go_sem ↓] theorem stK_load (x : TypeId) (y : Operand) (ops : List Oper) (l : List (Nat × Nat)) : stK (.load x y) ops l = l := (rfl)
@[go_sem ↓] theorem ldK_store (x : TypeId) (y z : Operand) (ops : List Oper) (s : Nat) (l : List (Nat × Nat)) : ldK (.store x y z) ops s l = l := (rfl)
@[go_sem ↓] theorem stK_nilCheck (x : Operand) (ops : List Oper) (l : List (Nat × Nat)) : stK (.nilCheck x) ops l = l := (rfl)
@[go_sem ↓] theorem ldK_nilCheck (x : Operand) (ops : List Oper) (s : Nat) (l : List (Nat × Nat)) : ldK (.nilCheck x) ops s l = l := (rfl)
@[go_sem ↓] theorem stK_binOp (x : BinOp) (y : TypeId) (z u : Operand) (v : TypeId) (ops : List Oper) (l : List (Nat × Nat)) : stK (.binOp x y z u v) ops l = l := (rfl)
@[go_sem ↓] theorem ldK_binOp (x : BinOp) (y : TypeId) (z u : Operand) (v : TypeId) (ops : List Oper) (s : Nat) (l : List (Nat × Nat)) : ldK (.binOp x y z u v) ops s l = l := (rfl)
@[go_sem ↓] theorem stK_unOp (x : UnOp) (y : TypeId) (z : Operand) (ops : List Oper) (l : List (Nat × Nat)) : stK (.unOp x y z) ops l = l := (rfl)
@[go_sem ↓] theorem ldK_unOp (x : UnOp) (y : TypeId) (z : Operand) (ops : List Oper) (s : Nat) (l : List (Nat × Nat)) : ldK (.unOp x y z) ops s l = l := (rfl)
@[go_sem ↓] theorem stK_convert (x y : TypeId) (z : Operand) (ops : List Oper) (l : List (Nat × Nat)) : stK (.convert x y z) ops l = l := (rfl)
@[go_sem ↓] theorem ldK_convert (x y : TypeId) (z : Operand) (ops : List Oper) (s : Nat) (l : List (Nat × Nat)) : ldK (.convert x y z) ops s l = l := (rfl)
@[go_sem ↓] theorem stK_sliceToArrayPointer (x : TypeId) (y : Operand) (ops : List Oper) (l : List (Nat × Nat)) : stK (.sliceToArrayPointer x y) ops l = l := (rfl)
@[go_sem ↓] theorem ldK_sliceToArrayPointer (x : TypeId) (y : Operand) (ops : List Oper) (s : Nat) (l : List (Nat × Nat)) : ldK (.sliceToArrayPointer x y) ops s l = l := (rfl)
@[go_sem ↓] theorem stK_makeInterface (x : TypeId) (y : Operand) (ops : List Oper) (l : List (Nat × Nat)) : stK (.makeInterface x y) ops l = l := (rfl)
@[go_sem ↓] theorem ldK_makeInterface (x : TypeId) (y : Operand) (ops : List Oper) (s : Nat) (l : List (Nat × Nat)) : ldK (.makeInterface x y) ops s l = l := (rfl)
@[go_sem ↓] theorem stK_makeFunc (x : Fn) (y z : Array Operand) (ops : List Oper) (l : List (Nat × Nat)) : stK (.makeFunc x y z) ops l = l := (rfl)
@[go_sem ↓] theorem ldK_makeFunc (x : Fn) (y z : Array Operand) (ops : List Oper) (s : Nat) (l : List (Nat × Nat)) : ldK (.makeFunc x y z) ops s l = l := (rfl)
@[go_sem ↓] theorem stK_makeMap (x : TypeId) (y : Option Operand) (ops : List Oper) (l : List (Nat × Nat)) : stK (.makeMap x y) ops l = l := (rfl)
@[go_sem ↓] theorem ldK_makeMap (x : TypeId) (y : Option Operand) (ops : List Oper) (s : Nat) (l : List (Nat × Nat)) : ldK (.makeMap x y) ops s l = l := (rfl)
@[go_sem ↓] theorem stK_makeSlice (x : TypeId) (y z : Operand) (ops : List Oper) (l : List (Nat × Nat)) : stK (.makeSlice x y z) ops l = l := (rfl)
@[go_sem ↓] theorem ldK_makeSlice (x : TypeId) (y z : Operand) (ops : List Oper) (s : Nat) (l : List (Nat × Nat)) : ldK (.makeSlice x y z) ops s l = l := (rfl)
@[go_sem ↓] theorem stK_slice (x : TypeId) (y : Operand) (z u v : Option Operand) (ops : List Oper) (l : List (Nat × Nat)) : stK (.slice x y z u v) ops l = l := (rfl)
@[go_sem ↓] theorem ldK_slice (x : TypeId) (y : Operand) (z u v : Option Operand) (ops : List Oper) (s : Nat) (l : List (Nat × Nat)) : ldK (.slice x y z u v) ops s l = l := (rfl)
@[go_sem ↓] theorem stK_fieldAddr (x : TypeId) (y : Operand) (z : Nat) (ops : List Oper) (l : List (Nat × Nat)) : stK (.fieldAddr x y z) ops l = l := (rfl)
@[go_sem ↓] theorem ldK_fieldAddr (x : TypeId) (y : Operand) (z : Nat) (ops : List Oper) (s : Nat) (l : List (Nat × Nat)) : ldK (.fieldAddr x y z) ops s l = l := (rfl)
@[go_sem ↓] theorem stK_field (x : TypeId) (y : Operand) (z : Nat) (ops : List Oper) (l : List (Nat × Nat)) : stK (.field x y z) ops l = l := (rfl)
@[go_sem ↓] theorem ldK_field (x : TypeId) (y : Operand) (z : Nat) (ops : List Oper) (s : Nat) (l : List (Nat × Nat)) : ldK (.field x y z) ops s l = l := (rfl)
@[go_sem ↓] theorem stK_indexAddr (x : TypeId) (y z : Operand) (ops : List Oper) (l : List (Nat × Nat)) : stK (.indexAddr x y z) ops l = l := (rfl)
@[go_sem ↓] theorem ldK_indexAddr (x : TypeId) (y z : Operand) (ops : List Oper) (s : Nat) (l : List (Nat × Nat)) : ldK (.indexAddr x y z) ops s l = l := (rfl)
@[go_sem ↓] theorem stK_index (x : TypeId) (y z : Operand) (ops : List Oper) (l : List (Nat × Nat)) : stK (.index x y z) ops l = l := (rfl)
@[go_sem ↓] theorem ldK_index (x : TypeId) (y z : Operand) (ops : List Oper) (s : Nat) (l : List (Nat × Nat)) : ldK (.index x y z) ops s l = l := (rfl)
@[go_sem ↓] theorem stK_lookup (x : TypeId) (y z : Operand) (u : Bool) (ops : List Oper) (l : List (Nat × Nat)) : stK (.lookup x y z u) ops l = l := (rfl)
@[go_sem ↓] theorem ldK_lookup (x : TypeId) (y z : Operand) (u : Bool) (ops : List Oper) (s : Nat) (l : List (Nat × Nat)) : ldK (.lookup x y z u) ops s l = l := (rfl)
@[go_sem ↓] theorem stK_mapUpdate (x : TypeId) (y z u : Operand) (ops : List Oper) (l : List (Nat × Nat)) : stK (.mapUpdate x y z u) ops l = l := (rfl)
@[go_sem ↓] theorem ldK_mapUpdate (x : TypeId) (y z u : Operand) (ops : List Oper) (s : Nat) (l : List (Nat × Nat)) : ldK (.mapUpdate x y z u) ops s l = l := (rfl)
@[go_sem ↓] theorem stK_mapEntry (x : TypeId) (y z : Operand) (ops : List Oper) (l : List (Nat × Nat)) : stK (.mapEntry x y z) ops l = l := (rfl)
@[go_sem ↓] theorem ldK_mapEntry (x : TypeId) (y z : Operand) (ops : List Oper) (s : Nat) (l : List (Nat × Nat)) : ldK (.mapEntry x y z) ops s l = l := (rfl)
@[go_sem ↓] theorem stK_entryStore (x : TypeId) (y z u : Operand) (ops : List Oper) (l : List (Nat × Nat)) : stK (.entryStore x y z u) ops l = l := (rfl)
@[go_sem ↓] theorem ldK_entryStore (x : TypeId) (y z u : Operand) (ops : List Oper) (s : Nat) (l : List (Nat × Nat)) : ldK (.entryStore x y z u) ops s l = l := (rfl)
@[go_sem ↓] theorem stK_insert (x : TypeId) (y z u : Operand) (ops : List Oper) (l : List (Nat × Nat)) : stK (.insert x y z u) ops l = l := (rfl)
@[go_sem ↓] theorem ldK_insert (x : TypeId) (y z u : Operand) (ops : List Oper) (s : Nat) (l : List (Nat × Nat)) : ldK (.insert x y z u) ops s l = l := (rfl)
@[go_sem ↓] theorem stK_range (x : TypeId) (y : Operand) (ops : List Oper) (l : List (Nat × Nat)) : stK (.range x y) ops l = l := (rfl)
@[go_sem ↓] theorem ldK_range (x : TypeId) (y : Operand) (ops : List Oper) (s : Nat) (l : List (Nat × Nat)) : ldK (.range x y) ops s l = l := (rfl)
@[go_sem ↓] theorem stK_next (x : Operand) (y : Bool) (ops : List Oper) (l : List (Nat × Nat)) : stK (.next x y) ops l = l := (rfl)
@[go_sem ↓] theorem ldK_next (x : Operand) (y : Bool) (ops : List Oper) (s : Nat) (l : List (Nat × Nat)) : ldK (.next x y) ops s l = l := (rfl)
@[go_sem ↓] theorem stK_entry (x : Operand) (ops : List Oper) (l : List (Nat × Nat)) : stK (.entry x) ops l = l := (rfl)
@[go_sem ↓] theorem ldK_entry (x : Operand) (ops : List Oper) (s : Nat) (l : List (Nat × Nat)) : ldK (.entry x) ops s l = l := (rfl)
@[go_sem ↓] theorem stK_typeAssert (x : Operand) (y z : TypeId) (u : Bool) (ops : List Oper) (l : List (Nat × Nat)) : stK (.typeAssert x y z u) ops l = l := (rfl)
@[go_sem ↓] theorem ldK_typeAssert (x : Operand) (y z : TypeId) (u : Bool) (ops : List Oper) (s : Nat) (l : List (Nat × Nat)) : ldK (.typeAssert x y z u) ops s l = l := (rfl)
@[go_sem ↓] theorem stK_extract (x : Operand) (y : Nat) (ops : List Oper) (l : List (Nat × Nat)) : stK (.extract x y) ops l = l := (rfl)
@[go_sem ↓] theorem ldK_extract (x : Operand) (y : Nat) (ops : List Oper) (s : Nat) (l : List (Nat × Nat)) : ldK (.extract x y) ops s l = l := (rfl)
@[go_sem ↓] theorem stK_call (x : Call) (ops : List Oper) (l : List (Nat × Nat)) : stK (.call x) ops l = l := (rfl)
@[go_sem ↓] theorem ldK_call (x : Call) (ops : List Oper) (s : Nat) (l : List (Nat × Nat)) : ldK (.call x) ops s l = l := (rfl)

/-- What comes next: behind a loop it waits. -/
def aThen (P : Program) (Γ : Nat → Option (List AV)) (N : Nat) (b : Bool) (y : Code) (Q : Exit → Tm → AH → Prop) (σ : Tm) (h : AH) : Prop := bif b then AWP P Γ N y Q σ h else aCode P Γ N y Q σ h
@[go_sem] theorem aCode_seq (x y : Code) (Q : Exit → Tm → AH → Prop) : aCode P Γ N (.seq x y) Q σ h = aCode P Γ N x (thenA (aThen P Γ N (stops x) y Q) Q) σ h := (rfl)
@[go_sem] theorem aThen_true (y : Code) (Q : Exit → Tm → AH → Prop) : aThen P Γ N true y Q σ h = AWP P Γ N y Q σ h := (rfl)
@[go_sem] theorem aThen_false (y : Code) (Q : Exit → Tm → AH → Prop) : aThen P Γ N false y Q σ h = aCode P Γ N y Q σ h := (rfl)
@[go_sem] theorem aCode_cond (c : Operand) (x y : Code) (Q : Exit → Tm → AH → Prop) : aCode P Γ N (.cond c x y) Q σ h = aBr (ev Γ σ c) true (aCode P Γ N x Q) σ (aCode P Γ N y Q) σ h := (rfl)
@[go_sem] theorem aCode_block (id : Nat) (c : Code) (Q : Exit → Tm → AH → Prop) : aCode P Γ N (.block id c) Q σ h = aCode P Γ N c (blockA id Q) σ h := (rfl)
@[go_sem] theorem aCode_loop (c : Code) (Q : Exit → Tm → AH → Prop) : aCode P Γ N (.loop c) Q σ h = AWP P Γ N (.loop c) Q σ h := (rfl)
@[go_sem] theorem aCode_rangeFunc (f : Operand) (ps : Array Tmp) (a b : Code) (Q : Exit → Tm → AH → Prop) : aCode P Γ N (.rangeFunc f ps a b) Q σ h = AWP P Γ N (.rangeFunc f ps a b) Q σ h := (rfl)
@[go_sem] theorem aCode_scope (c : Code) (Q : Exit → Tm → AH → Prop) : aCode P Γ N (.scope c) Q σ h = AWP P Γ N (.scope c) Q σ h := (rfl)
@[go_sem ↓] theorem stops_loop (c : Code) : stops (.loop c) = true := (rfl)
@[go_sem ↓] theorem stops_rangeFunc (f : Operand) (ps : Array Tmp) (a b : Code) : stops (.rangeFunc f ps a b) = true := (rfl)
@[go_sem ↓] theorem stops_scope (c : Code) : stops (.scope c) = true := (rfl)
@[go_sem ↓] theorem stops_seq (x y : Code) : stops (.seq x y) = (stops x || stops y) := (rfl)
@[go_sem ↓] theorem stops_cond (c : Operand) (x y : Code) : stops (.cond c x y) = (stops x || stops y) := (rfl)
@[go_sem ↓] theorem stops_block (id : Nat) (c : Code) : stops (.block id c) = stops c := (rfl)
@[go_sem ↓] theorem stops_region (id : Nat) (ops : Array Oper) (d : Bool) : stops (.region id ops d) = false := (rfl)
@[go_sem ↓] theorem stops_skip : stops .skip = false := (rfl)
@[go_sem ↓] theorem stops_ret : stops .ret = false := (rfl)
@[go_sem ↓] theorem stops_exit (l : Nat) : stops (.exit l) = false := (rfl)
@[go_sem ↓] theorem stops_goto (l : Nat) : stops (.goto l) = false := (rfl)
@[go_sem ↓] theorem stops_label (l : Nat) : stops (.label l) = false := (rfl)
@[go_sem] theorem thenA_normal (K : Tm → AH → Prop) (Q : Exit → Tm → AH → Prop) : thenA K Q .normal σ h = K σ h := (rfl)
@[go_sem] theorem thenA_ret (K : Tm → AH → Prop) (Q : Exit → Tm → AH → Prop) : thenA K Q .ret σ h = Q .ret σ h := (rfl)
@[go_sem] theorem thenA_exit (K : Tm → AH → Prop) (Q : Exit → Tm → AH → Prop) (l : Nat) : thenA K Q (.exit l) σ h = Q (.exit l) σ h := (rfl)
@[go_sem] theorem thenA_goto (K : Tm → AH → Prop) (Q : Exit → Tm → AH → Prop) (l : Nat) : thenA K Q (.goto l) σ h = Q (.goto l) σ h := (rfl)
@[go_sem] theorem blockA_normal (id : Nat) (Q : Exit → Tm → AH → Prop) : blockA id Q .normal σ h = Q .normal σ h := (rfl)
@[go_sem] theorem blockA_ret (id : Nat) (Q : Exit → Tm → AH → Prop) : blockA id Q .ret σ h = Q .ret σ h := (rfl)
@[go_sem] theorem blockA_exit (id l : Nat) (Q : Exit → Tm → AH → Prop) : blockA id Q (.exit l) σ h = if l = id then Q .normal σ h else Q (.exit l) σ h := (rfl)
@[go_sem] theorem blockA_goto (id l : Nat) (Q : Exit → Tm → AH → Prop) : blockA id Q (.goto l) σ h = Q (.goto l) σ h := (rfl)
@[go_sem] theorem roundS_ret {α : Type} {L : List Nat} {st : α → Tm} {hp : α → AH} {inv : α → Prop} {μ : α → Nat} {x : α} {Q : Exit → Tm → AH → Prop} : roundS L st hp inv μ x Q .ret σ h = Q .ret σ h := (rfl)
@[go_sem] theorem roundS_exit {α : Type} {L : List Nat} {st : α → Tm} {hp : α → AH} {inv : α → Prop} {μ : α → Nat} {x : α} {Q : Exit → Tm → AH → Prop} (l : Nat) : roundS L st hp inv μ x Q (.exit l) σ h = Q (.exit l) σ h := (rfl)
theorem roundS_next {α : Type} {L : List Nat} {st : α → Tm} {hp : α → AH} {inv : α → Prop} {μ : α → Nat} {x : α} {Q : Exit → Tm → AH → Prop} (y : α) (h1 : μ y < μ x) (h2 : inv y) (h3 : keep L σ = st y) (h4 : h = hp y) :
    roundS L st hp inv μ x Q .normal σ h := ⟨y, h1, h2, .of_eq h3, h4⟩
@[go_sem] theorem endA_ret (rs : List ResultVar) (R : AV → AH → Prop) : endA P rs R .ret σ h = aResL P σ h rs (conR R h) := by simp only [endA, true_or, true_and]; rfl
@[go_sem] theorem endA_normal (rs : List ResultVar) (R : AV → AH → Prop) : endA P rs R .normal σ h = aResL P σ h rs (conR R h) := by simp only [endA, or_true, true_and]; rfl
@[go_sem] theorem aResL_nil (k : List AV → Prop) : aResL P σ h [] k = k [] := (rfl)
@[go_sem] theorem aResL_tmp (t : Tmp) (r : List ResultVar) (k : List AV → Prop) : aResL P σ h (.tmp t :: r) k = aResL P σ h r (conCons k (lk σ t)) := (rfl)
@[go_sem] theorem aResL_cell (a : Tmp) (t : TypeId) (r : List ResultVar) (k : List AV → Prop) : aResL P σ h (.cell a t :: r) k = aLoad P t (lk σ a) h (conRes P σ h r k) := (rfl)
@[go_sem] theorem oneOf_one (v : AV) : oneOf [v] = v := (rfl)
@[go_sem] theorem oneOf_none : oneOf [] = .tuple [] := (rfl)
@[go_sem] theorem oneOf_more (v u : AV) (r : List AV) : oneOf (v :: u :: r) = .tuple (v :: u :: r) := (rfl)

/-! ### Operations, one at a time -/
/-- An operation, its operands still to be reckoned. -/
def aOp1 (P : Program) (Γ : Nat → Option (List AV)) (op : Op) (K : AV → Tm → AH → Prop) (σ : Tm) (h : AH) : Prop :=
  aOper P Γ { dst := none, op := op, type := 0, pos := "", after := #[], guard := none } K σ h
def aOpD (P : Program) (Γ : Nat → Option (List AV)) (op : Op) (K : AV → Tm → AH → Prop) (σ : Tm) (h : AH) : Prop :=
  aOperD P Γ { dst := none, op := op, type := 0, pos := "", after := #[], guard := none } K σ h
@[go_sem] theorem aOps_nil (ops : List Oper) (K : Tm → AH → Prop) : aOps P Γ ops K [] σ h = K σ h := (rfl)
@[go_sem] theorem aDets_nil (ops : List Oper) (K : Tm → AH → Prop) : aDets P Γ ops K [] σ h = K σ h := (rfl)
def aPut (P : Program) (Γ : Nat → Option (List AV)) (ops : List Oper) (K : KB) (rest : List Oper) (d : Option Tmp) (v : AV) (σ : Tm) (h : AH) : Prop := aOps P Γ ops K rest (put d v σ) h
def aPutD (P : Program) (Γ : Nat → Option (List AV)) (ops : List Oper) (K : KB) (rest : List Oper) (d : Option Tmp) (v : AV) (σ : Tm) (h : AH) : Prop := aDets P Γ ops K rest (put d v σ) h
def aPass (P : Program) (Γ : Nat → Option (List AV)) (ops : List Oper) (K : KB) (rest : List Oper) (d : Option Tmp) (σ : Tm) (h : AH) : Prop := aOps P Γ ops K rest (put d (.tuple []) σ) h
def aPassD (P : Program) (Γ : Nat → Option (List AV)) (ops : List Oper) (K : KB) (rest : List Oper) (d : Option Tmp) (σ : Tm) (h : AH) : Prop := aDets P Γ ops K rest (put d (.tuple []) σ) h
@[go_sem] theorem aPut_eq (ops : List Oper) (K : KB) (rest : List Oper) (d : Option Tmp) (v : AV) : aPut P Γ ops K rest d v σ h = aOps P Γ ops K rest (put d v σ) h := (rfl)
@[go_sem] theorem aPutD_eq (ops : List Oper) (K : KB) (rest : List Oper) (d : Option Tmp) (v : AV) : aPutD P Γ ops K rest d v σ h = aDets P Γ ops K rest (put d v σ) h := (rfl)
@[go_sem] theorem aPass_eq (ops : List Oper) (K : KB) (rest : List Oper) (d : Option Tmp) : aPass P Γ ops K rest d σ h = aOps P Γ ops K rest (put d (.tuple []) σ) h := (rfl)
@[go_sem] theorem aPassD_eq (ops : List Oper) (K : KB) (rest : List Oper) (d : Option Tmp) : aPassD P Γ ops K rest d σ h = aDets P Γ ops K rest (put d (.tuple []) σ) h := (rfl)
@[go_sem] theorem aOps_plain (ops : List Oper) (K : KB) (d : Option Tmp) (op : Op) (ty : TypeId) (pos : String) (after : Array Edge) (rest : List Oper) :
    aOps P Γ ops K ({ dst := d, op := op, type := ty, pos := pos, after := after, guard := none } :: rest) σ h = aOp1 P Γ op (aPut P Γ ops K rest d) σ h := (rfl)
@[go_sem] theorem aDets_plain (ops : List Oper) (K : KB) (d : Option Tmp) (op : Op) (ty : TypeId) (pos : String) (after : Array Edge) (rest : List Oper) :
    aDets P Γ ops K ({ dst := d, op := op, type := ty, pos := pos, after := after, guard := none } :: rest) σ h = aOpD P Γ op (aPutD P Γ ops K rest d) σ h := (rfl)
@[go_sem] theorem aOps_guard (ops : List Oper) (K : KB) (d : Option Tmp) (op : Op) (ty : TypeId) (pos : String) (after : Array Edge) (j : Nat) (want : Bool) (rest : List Oper) :
    aOps P Γ ops K ({ dst := d, op := op, type := ty, pos := pos, after := after, guard := some (j, want) } :: rest) σ h = aGd (dstAt ops j) want (aOp1 P Γ op (aPut P Γ ops K rest d)) (aPass P Γ ops K rest d) σ h := (rfl)
@[go_sem] theorem aDets_guard (ops : List Oper) (K : KB) (d : Option Tmp) (op : Op) (ty : TypeId) (pos : String) (after : Array Edge) (j : Nat) (want : Bool) (rest : List Oper) :
    aDets P Γ ops K ({ dst := d, op := op, type := ty, pos := pos, after := after, guard := some (j, want) } :: rest) σ h = aGd (dstAt ops j) want (aOpD P Γ op (aPutD P Γ ops K rest d)) (aPassD P Γ ops K rest d) σ h := (rfl)
/-- A call. -/
def aCallV (P : Program) (Γ : Nat → Option (List AV)) (f : AV) (as : List AV) (h : AH) (R : AV → AH → Prop) : Prop := match f with
  | .func g first cap => ACalls P Γ g (first ++ as ++ cap) h R
  | .yield l => AYield P Γ l as h R
  | _ => False
@[go_sem] theorem aCallV_func (g : FuncId) (first cap as : List AV) (R : AV → AH → Prop) : aCallV P Γ (.func g first cap) as h R = ACalls P Γ g (first ++ as ++ cap) h R := (rfl)
@[go_sem] theorem aCallV_yield (l : Nat) (as : List AV) (R : AV → AH → Prop) : aCallV P Γ (.yield l) as h R = AYield P Γ l as h R := (rfl)
/-- A call where nothing of one's own is touched. -/
def aCallF (P : Program) (Γ : Nat → Option (List AV)) (g : FuncId) (as : List AV) (h : AH) (K : AV → Prop) : Prop := ∃ v, (∀ l, ACalls P Γ g as (h ++ l) (fun v' h' => h' = h ++ l ∧ v' = v)) ∧ K v
@[go_sem] theorem aCallD_func (g : FuncId) (first cap as : List AV) (K : AV → Prop) : aCallD P Γ (.func g first cap) as h K = aCallF P Γ g (first ++ as ++ cap) h K := (rfl)
theorem aCallF.intro {g : FuncId} {as : List AV} {K : AV → Prop} {v : AV} (H : ∀ l, ACalls P Γ g as (h ++ l) fun v' h' => h' = h ++ l ∧ v' = v) (hK : K v) : aCallF P Γ g as h K := ⟨v, H, hK⟩
theorem ACalls.det {g : FuncId} {as : List AV} {R : AV → AH → Prop} {v : AV} (H : ACalls P Γ g as h fun v' h' => h' = h ∧ v' = v) (hR : R v h) : ACalls P Γ g as h R := H.mono fun v' h' e => by
  obtain ⟨rfl, rfl⟩ := e; exact hR
theorem ACalls.then {g : FuncId} {as : List AV} {R R' : AV → AH → Prop} (H : ACalls P Γ g as h R') (hR : ∀ v h', R' v h' → R v h') : ACalls P Γ g as h R := H.mono hR
@[go_sem] theorem aNext_eq (K : AV → Tm → AH → Prop) (v : AV) : aNext K σ v h = K v σ h := (rfl)

/-- One of two. -/
def aPick (c a b : AV) (K : AV → Prop) : Prop := match c with
  | .bool t => K (if t then a else b)
  | _ => False
@[go_sem] theorem aPick_true (a b : AV) (K : AV → Prop) : aPick (.bool true) a b K = K a := (rfl)
@[go_sem] theorem aPick_false (a b : AV) (K : AV → Prop) : aPick (.bool false) a b K = K b := (rfl)
@[go_sem] theorem aOp1_move (x : Operand) (K : AV → Tm → AH → Prop) : aOp1 P Γ (.move x) K σ h = (K ((ev Γ σ x)) σ h) := (rfl)
@[go_sem] theorem aOpD_move (x : Operand) (K : AV → Tm → AH → Prop) : aOpD P Γ (.move x) K σ h = (K ((ev Γ σ x)) σ h) := by show aop P Γ σ h (.move x) (fun v h' => h' = h ∧ K v σ h) = _; simp only [aop, true_and] <;> rfl
@[go_sem] theorem aOp1_assign (x : Operand) (K : AV → Tm → AH → Prop) : aOp1 P Γ (.assign x) K σ h = (K ((ev Γ σ x)) σ h) := (rfl)
@[go_sem] theorem aOpD_assign (x : Operand) (K : AV → Tm → AH → Prop) : aOpD P Γ (.assign x) K σ h = (K ((ev Γ σ x)) σ h) := by show aop P Γ σ h (.assign x) (fun v h' => h' = h ∧ K v σ h) = _; simp only [aop, true_and] <;> rfl
@[go_sem] theorem aOp1_pick (c a b : Operand) (K : AV → Tm → AH → Prop) : aOp1 P Γ (.pick c a b) K σ h = (aPick (ev Γ σ c) (ev Γ σ a) (ev Γ σ b) (conV K σ h)) := (rfl)
@[go_sem] theorem aOpD_pick (c a b : Operand) (K : AV → Tm → AH → Prop) : aOpD P Γ (.pick c a b) K σ h = (aPick (ev Γ σ c) (ev Γ σ a) (ev Γ σ b) (conV K σ h)) := by show aop P Γ σ h (.pick c a b) (fun v h' => h' = h ∧ K v σ h) = _; simp only [aop, true_and] <;> rfl
@[go_sem] theorem aOp1_alloc (t : TypeId) (K : AV → Tm → AH → Prop) : aOp1 P Γ (.alloc t) K σ h = (aAlloc P t h (conA K σ)) := (rfl)
@[go_sem] theorem aOpD_alloc (t : TypeId) (K : AV → Tm → AH → Prop) : aOpD P Γ (.alloc t) K σ h = (aAlloc P t h (conA K σ)) := (rfl)
@[go_sem] theorem aOp1_box (t : TypeId) (x : Operand) (K : AV → Tm → AH → Prop) : aOp1 P Γ (.box t x) K σ h = (aBox t (ev Γ σ x) h (conA K σ)) := (rfl)
@[go_sem] theorem aOpD_box (t : TypeId) (x : Operand) (K : AV → Tm → AH → Prop) : aOpD P Γ (.box t x) K σ h = (aBox t (ev Γ σ x) h (conA K σ)) := (rfl)
@[go_sem] theorem aOp1_build (t : TypeId) (ps : Array (Nat × Operand)) (K : AV → Tm → AH → Prop) : aOp1 P Γ (.build t ps) K σ h = (aBuild P t (evParts Γ σ ps) (conV K σ h)) := (rfl)
@[go_sem] theorem aOpD_build (t : TypeId) (ps : Array (Nat × Operand)) (K : AV → Tm → AH → Prop) : aOpD P Γ (.build t ps) K σ h = (aBuild P t (evParts Γ σ ps) (conV K σ h)) := by show aop P Γ σ h (.build t ps) (fun v h' => h' = h ∧ K v σ h) = _; simp only [aop, true_and] <;> rfl
@[go_sem] theorem aOpD_buildSlice (t : TypeId) (n : Nat) (ps : Array (Nat × Operand)) (K : AV → Tm → AH → Prop) : aOpD P Γ (.buildSlice t n ps) K σ h = (aBuildSlice P t n (evParts Γ σ ps) (conV K σ h)) := by show aop P Γ σ h (.buildSlice t n ps) (fun v h' => h' = h ∧ K v σ h) = _; simp only [aop, true_and] <;> rfl
@[go_sem] theorem aOp1_load (t : TypeId) (a : Operand) (K : AV → Tm → AH → Prop) : aOp1 P Γ (.load t a) K σ h = (aLoad P t (ev Γ σ a) h (conA K σ)) := (rfl)
@[go_sem] theorem aOpD_load (t : TypeId) (a : Operand) (K : AV → Tm → AH → Prop) : aOpD P Γ (.load t a) K σ h = (aLoad P t (ev Γ σ a) h (conDA K σ h)) := (rfl)
@[go_sem] theorem aOp1_store (t : TypeId) (a x : Operand) (K : AV → Tm → AH → Prop) : aOp1 P Γ (.store t a x) K σ h = (aStore P t (ev Γ σ a) (ev Γ σ x) h (conS K σ)) := (rfl)
@[go_sem] theorem aOpD_store (t : TypeId) (a x : Operand) (K : AV → Tm → AH → Prop) : aOpD P Γ (.store t a x) K σ h = (aStore P t (ev Γ σ a) (ev Γ σ x) h (conS K σ)) := (rfl)
@[go_sem] theorem aOp1_nilCheck (x : Operand) (K : AV → Tm → AH → Prop) : aOp1 P Γ (.nilCheck x) K σ h = (aNil (ev Γ σ x) (conV K σ h)) := (rfl)
@[go_sem] theorem aOpD_nilCheck (x : Operand) (K : AV → Tm → AH → Prop) : aOpD P Γ (.nilCheck x) K σ h = (aNil (ev Γ σ x) (conV K σ h)) := by show aop P Γ σ h (.nilCheck x) (fun v h' => h' = h ∧ K v σ h) = _; simp only [aop, true_and] <;> rfl
@[go_sem] theorem aOpD_binOp (op : BinOp) (t : TypeId) (x y : Operand) (u : TypeId) (K : AV → Tm → AH → Prop) : aOpD P Γ (.binOp op t x y u) K σ h = (aBin2 P op t (ev Γ σ x) (ev Γ σ y) (conV K σ h)) := by show aop P Γ σ h (.binOp op t x y u) (fun v h' => h' = h ∧ K v σ h) = _; simp only [aop, true_and] <;> rfl
@[go_sem] theorem aOp1_unOp (op : UnOp) (t : TypeId) (x : Operand) (K : AV → Tm → AH → Prop) : aOp1 P Γ (.unOp op t x) K σ h = (aUn op (ev Γ σ x) (conV K σ h)) := (rfl)
@[go_sem] theorem aOpD_unOp (op : UnOp) (t : TypeId) (x : Operand) (K : AV → Tm → AH → Prop) : aOpD P Γ (.unOp op t x) K σ h = (aUn op (ev Γ σ x) (conV K σ h)) := by show aop P Γ σ h (.unOp op t x) (fun v h' => h' = h ∧ K v σ h) = _; simp only [aop, true_and] <;> rfl
@[go_sem] theorem aOp1_convert (s t : TypeId) (x : Operand) (K : AV → Tm → AH → Prop) : aOp1 P Γ (.convert s t x) K σ h = (aConv2 P s t (ev Γ σ x) (conV K σ h)) := (rfl)
@[go_sem] theorem aOpD_convert (s t : TypeId) (x : Operand) (K : AV → Tm → AH → Prop) : aOpD P Γ (.convert s t x) K σ h = (aConv2 P s t (ev Γ σ x) (conV K σ h)) := by show aop P Γ σ h (.convert s t x) (fun v h' => h' = h ∧ K v σ h) = _; simp only [aop, true_and] <;> rfl
@[go_sem] theorem aOp1_makeFunc (f : FuncId) (a b : List Operand) (K : AV → Tm → AH → Prop) : aOp1 P Γ (.makeFunc (.func f) a.toArray b.toArray) K σ h = (K ((.func f (a.map (ev Γ σ)) (b.map (ev Γ σ)))) σ h) := (rfl)
@[go_sem] theorem aOpD_makeFunc (f : FuncId) (a b : List Operand) (K : AV → Tm → AH → Prop) : aOpD P Γ (.makeFunc (.func f) a.toArray b.toArray) K σ h = (K ((.func f (a.map (ev Γ σ)) (b.map (ev Γ σ)))) σ h) := by show aop P Γ σ h (.makeFunc (.func f) a.toArray b.toArray) (fun v h' => h' = h ∧ K v σ h) = _; simp only [aop, true_and] <;> rfl
@[go_sem] theorem aOp1_makeMap (t : TypeId) (K : AV → Tm → AH → Prop) : aOp1 P Γ (.makeMap t none) K σ h = (aMakeMap h (conA K σ)) := (rfl)
@[go_sem] theorem aOpD_makeMap (t : TypeId) (K : AV → Tm → AH → Prop) : aOpD P Γ (.makeMap t none) K σ h = (aMakeMap h (conA K σ)) := (rfl)
@[go_sem] theorem aOp1_slice (t : TypeId) (x : Operand) (lo hi mx : Option Operand) (K : AV → Tm → AH → Prop) : aOp1 P Γ (.slice t x lo hi mx) K σ h = (aSlice2 P t (ev Γ σ x) (lo.map (ev Γ σ)) (hi.map (ev Γ σ)) (mx.map (ev Γ σ)) (conV K σ h)) := (rfl)
@[go_sem] theorem aOpD_slice (t : TypeId) (x : Operand) (lo hi mx : Option Operand) (K : AV → Tm → AH → Prop) : aOpD P Γ (.slice t x lo hi mx) K σ h = (aSlice2 P t (ev Γ σ x) (lo.map (ev Γ σ)) (hi.map (ev Γ σ)) (mx.map (ev Γ σ)) (conV K σ h)) := by show aop P Γ σ h (.slice t x lo hi mx) (fun v h' => h' = h ∧ K v σ h) = _; simp only [aop, true_and] <;> rfl
@[go_sem] theorem aOp1_fieldAddr (s : TypeId) (x : Operand) (f : Nat) (K : AV → Tm → AH → Prop) : aOp1 P Γ (.fieldAddr s x f) K σ h = (aFieldAddr P s (ev Γ σ x) f (conV K σ h)) := (rfl)
@[go_sem] theorem aOpD_fieldAddr (s : TypeId) (x : Operand) (f : Nat) (K : AV → Tm → AH → Prop) : aOpD P Γ (.fieldAddr s x f) K σ h = (aFieldAddr P s (ev Γ σ x) f (conV K σ h)) := by show aop P Γ σ h (.fieldAddr s x f) (fun v h' => h' = h ∧ K v σ h) = _; simp only [aop, true_and] <;> rfl
@[go_sem] theorem aOp1_field (t : TypeId) (x : Operand) (f : Nat) (K : AV → Tm → AH → Prop) : aOp1 P Γ (.field t x f) K σ h = (aField P t (ev Γ σ x) f (conV K σ h)) := (rfl)
@[go_sem] theorem aOpD_field (t : TypeId) (x : Operand) (f : Nat) (K : AV → Tm → AH → Prop) : aOpD P Γ (.field t x f) K σ h = (aField P t (ev Γ σ x) f (conV K σ h)) := by show aop P Γ σ h (.field t x f) (fun v h' => h' = h ∧ K v σ h) = _; simp only [aop, true_and] <;> rfl
@[go_sem] theorem aOp1_indexAddr (t : TypeId) (x i : Operand) (K : AV → Tm → AH → Prop) : aOp1 P Γ (.indexAddr t x i) K σ h = (aIndexAddr P t (ev Γ σ x) (ev Γ σ i) (conV K σ h)) := (rfl)
@[go_sem] theorem aOpD_indexAddr (t : TypeId) (x i : Operand) (K : AV → Tm → AH → Prop) : aOpD P Γ (.indexAddr t x i) K σ h = (aIndexAddr P t (ev Γ σ x) (ev Γ σ i) (conV K σ h)) := by show aop P Γ σ h (.indexAddr t x i) (fun v h' => h' = h ∧ K v σ h) = _; simp only [aop, true_and] <;> rfl
@[go_sem] theorem aOp1_makeSlice (t : TypeId) (l c : Operand) (K : AV → Tm → AH → Prop) : aOp1 P Γ (.makeSlice t l c) K σ h = (aMakeSlice P t (ev Γ σ l) (ev Γ σ c) h (conA K σ)) := (rfl)
@[go_sem] theorem aOpD_makeSlice (t : TypeId) (l c : Operand) (K : AV → Tm → AH → Prop) : aOpD P Γ (.makeSlice t l c) K σ h = (aMakeSlice P t (ev Γ σ l) (ev Γ σ c) h (conA K σ)) := (rfl)
@[go_sem] theorem aOp1_range (t : TypeId) (x : Operand) (K : AV → Tm → AH → Prop) : aOp1 P Γ (.range t x) K σ h = (aRange P t (ev Γ σ x) h (conA K σ)) := (rfl)
@[go_sem] theorem aOpD_range (t : TypeId) (x : Operand) (K : AV → Tm → AH → Prop) : aOpD P Γ (.range t x) K σ h = (aRange P t (ev Γ σ x) h (conA K σ)) := (rfl)
@[go_sem] theorem aOp1_entry (x : Operand) (K : AV → Tm → AH → Prop) : aOp1 P Γ (.entry x) K σ h = (aEntry (ev Γ σ x) h (conV K σ h)) := (rfl)
@[go_sem] theorem aOpD_entry (x : Operand) (K : AV → Tm → AH → Prop) : aOpD P Γ (.entry x) K σ h = (aEntry (ev Γ σ x) h (conV K σ h)) := by show aop P Γ σ h (.entry x) (fun v h' => h' = h ∧ K v σ h) = _; simp only [aop, true_and] <;> rfl
@[go_sem] theorem aOp1_index (t : TypeId) (x i : Operand) (K : AV → Tm → AH → Prop) : aOp1 P Γ (.index t x i) K σ h = (aIndex P t (ev Γ σ x) (ev Γ σ i) (conV K σ h)) := (rfl)
@[go_sem] theorem aOpD_index (t : TypeId) (x i : Operand) (K : AV → Tm → AH → Prop) : aOpD P Γ (.index t x i) K σ h = (aIndex P t (ev Γ σ x) (ev Γ σ i) (conV K σ h)) := by show aop P Γ σ h (.index t x i) (fun v h' => h' = h ∧ K v σ h) = _; simp only [aop, true_and] <;> rfl
@[go_sem] theorem aOp1_lookup (t : TypeId) (m k : Operand) (ok : Bool) (K : AV → Tm → AH → Prop) : aOp1 P Γ (.lookup t m k ok) K σ h = (aLk2 (mks P t) P t (ev Γ σ m) (ev Γ σ k) ok h (conV K σ h)) := (rfl)
@[go_sem] theorem aOpD_lookup (t : TypeId) (m k : Operand) (ok : Bool) (K : AV → Tm → AH → Prop) : aOpD P Γ (.lookup t m k ok) K σ h = (aLk2 (mks P t) P t (ev Γ σ m) (ev Γ σ k) ok h (conV K σ h)) := by show aop P Γ σ h (.lookup t m k ok) (fun v h' => h' = h ∧ K v σ h) = _; simp only [aop, true_and] <;> rfl
@[go_sem] theorem aOp1_mapUpdate (t : TypeId) (m k x : Operand) (K : AV → Tm → AH → Prop) : aOp1 P Γ (.mapUpdate t m k x) K σ h = (aUp2 (mks P t) P t (ev Γ σ m) (ev Γ σ k) (ev Γ σ x) h (conS K σ)) := (rfl)
@[go_sem] theorem aOpD_mapUpdate (t : TypeId) (m k x : Operand) (K : AV → Tm → AH → Prop) : aOpD P Γ (.mapUpdate t m k x) K σ h = (aUp2 (mks P t) P t (ev Γ σ m) (ev Γ σ k) (ev Γ σ x) h (conS K σ)) := (rfl)
@[go_sem] theorem aOp1_insert (t : TypeId) (m k x : Operand) (K : AV → Tm → AH → Prop) : aOp1 P Γ (.insert t m k x) K σ h = (aUp2 (mks P t) P t (ev Γ σ m) (ev Γ σ k) (ev Γ σ x) h (conS K σ)) := (rfl)
@[go_sem] theorem aOpD_insert (t : TypeId) (m k x : Operand) (K : AV → Tm → AH → Prop) : aOpD P Γ (.insert t m k x) K σ h = (aUp2 (mks P t) P t (ev Γ σ m) (ev Γ σ k) (ev Γ σ x) h (conS K σ)) := (rfl)
@[go_sem] theorem aOp1_extract (x : Operand) (i : Nat) (K : AV → Tm → AH → Prop) : aOp1 P Γ (.extract x i) K σ h = (aExtract (ev Γ σ x) i (conV K σ h)) := (rfl)
@[go_sem] theorem aOpD_extract (x : Operand) (i : Nat) (K : AV → Tm → AH → Prop) : aOpD P Γ (.extract x i) K σ h = (aExtract (ev Γ σ x) i (conV K σ h)) := by show aop P Γ σ h (.extract x i) (fun v h' => h' = h ∧ K v σ h) = _; simp only [aop, true_and] <;> rfl
@[go_sem] theorem aOp1_makeInterface (t : TypeId) (x : Operand) (K : AV → Tm → AH → Prop) : aOp1 P Γ (.makeInterface t x) K σ h = (aMkI (tni P t) t (ev Γ σ x) (conV K σ h)) := (rfl)
@[go_sem] theorem aOpD_makeInterface (t : TypeId) (x : Operand) (K : AV → Tm → AH → Prop) : aOpD P Γ (.makeInterface t x) K σ h = (aMkI (tni P t) t (ev Γ σ x) (conV K σ h)) := by show aop P Γ σ h (.makeInterface t x) (fun v h' => h' = h ∧ K v σ h) = _; simp only [aop, true_and] <;> rfl
@[go_sem] theorem aOp1_typeAssert (x : Operand) (xt t : TypeId) (ok : Bool) (K : AV → Tm → AH → Prop) : aOp1 P Γ (.typeAssert x xt t ok) K σ h = (aTyA (tas P t) (ev Γ σ x) t ok (conV K σ h)) := (rfl)
@[go_sem] theorem aOpD_typeAssert (x : Operand) (xt t : TypeId) (ok : Bool) (K : AV → Tm → AH → Prop) : aOpD P Γ (.typeAssert x xt t ok) K σ h = (aTyA (tas P t) (ev Γ σ x) t ok (conV K σ h)) := by show aop P Γ σ h (.typeAssert x xt t ok) (fun v h' => h' = h ∧ K v σ h) = _; simp only [aop, true_and] <;> rfl
@[go_sem] theorem aOpD_builtin (b : Builtin) (as : List Operand) (ts : List TypeId) (K : AV → Tm → AH → Prop) : aOpD P Γ (.call { callee := .builtin b, args := as.toArray, argTypes := ts.toArray }) K σ h = (aBuiltin P b ts (as.map (ev Γ σ)) h (conBb (wrB b) K σ h)) := by cases b <;> rfl
/-! ### Operations that look at the mark, or whose outcome is open -/
@[go_sem] theorem mF_nil : mF [] = false := (rfl)
@[go_sem] theorem isMk_mark : isMk (.tuple []) = true := (rfl)
@[go_sem] theorem mF_cons (j : Nat) (v : AV) : mF ((j, v) :: σ) = if j = 1000000 then isMk v else mF σ := by
  simp only [mF, lk]
  by_cases h : j = 1000000
  · subst h; simp only [if_true]
  · rw [if_neg h, if_neg (fun e => h e.symm)]
@[go_sem] theorem mB_nil : mB [] = false := (rfl)
@[go_sem] theorem mB_cons (j : Nat) (v : AV) : mB ((j, v) :: σ) = if j = 1000001 then isMk v else mB σ := by
  simp only [mB, lk]
  by_cases h : j = 1000001
  · subst h; simp only [if_true]
  · rw [if_neg h, if_neg (fun e => h e.symm)]
def aBsF (m : Bool) (P : Program) (t : TypeId) (n : Nat) (ps : List (Nat × AV)) (h : AH) (K : AV → AH → Prop) : Prop := if m then aBuildSliceM P t n ps h K else aBuildSlice P t n ps fun v => K v h
@[go_sem] theorem aBsF_true (t : TypeId) (n : Nat) (ps : List (Nat × AV)) (K : AV → AH → Prop) : aBsF true P t n ps h K = aBuildSliceM P t n ps h K := (rfl)
@[go_sem] theorem aBsF_false (t : TypeId) (n : Nat) (ps : List (Nat × AV)) (K : KT) : aBsF false P t n ps h (conA K σ) = aBuildSlice P t n ps (conV K σ h) := (rfl)
@[go_sem] theorem aOp1_buildSlice (t : TypeId) (n : Nat) (ps : Array (Nat × Operand)) (K : KT) : aOp1 P Γ (.buildSlice t n ps) K σ h = aBsF (mF σ) P t n (evParts Γ σ ps) h (conA K σ) := by
  show (match (if mF σ then some (aBuildSliceM P t n (evParts Γ σ ps) h fun v h' => K v σ h') else none : Option Prop) with
    | some p => p
    | none => aBuildSlice P t n (evParts Γ σ ps) fun v => K v σ h) = _
  unfold aBsF
  cases mF σ <;> rfl
@[go_sem] theorem aMkI_eq (t : TypeId) (x : AV) (K : AV → Prop) : aMkI true t x K = K (.iface t x) := by simp [aMkI]
@[go_sem] theorem aTyA_nil (z : AV) (t : TypeId) (K : AV → Prop) : aTyA (some z) .nilIface t true K = K (.tuple [z, .bool false]) := by simp [aTyA]
@[go_sem] theorem aTyA_same (z v : AV) (t : TypeId) (K : AV → Prop) : aTyA (some z) (.iface t v) t true K = K (.tuple [v, .bool true]) := by simp [aTyA]
@[go_sem] theorem aTyA_one (z v : AV) (t : TypeId) (K : AV → Prop) : aTyA (some z) (.iface t v) t false K = K v := by simp [aTyA]
@[go_sem] theorem isNilI_tmp (t : Tmp) : isNilI (.tmp t) = false := (rfl)
@[go_sem] theorem isNilI_func (t : FuncId) : isNilI (.func t) = false := (rfl)
@[go_sem] theorem isNilI_global (t : Nat) : isNilI (.global t) = false := (rfl)
@[go_sem] theorem isNilI_int (k : IntKind) (n : Int) : isNilI (.const (.int k n)) = false := (rfl)
@[go_sem] theorem isNilI_bool (b : Bool) : isNilI (.const (.bool b)) = false := (rfl)
@[go_sem] theorem isNilI_str (b : ByteArray) : isNilI (.const (.string b)) = false := (rfl)
@[go_sem] theorem isNilI_nilPtr : isNilI (.const (.pointer none)) = false := (rfl)
@[go_sem] theorem isNilI_nilMap : isNilI (.const (.map none)) = false := (rfl)
@[go_sem] theorem isNilI_nilFunc : isNilI (.const .nilFunc) = false := (rfl)
@[go_sem] theorem isNilI_nil : isNilI (.const .nilIface) = true := (rfl)
def aBinI (b : Bool) (P : Program) (op : BinOp) (t : TypeId) (x y : AV) (K : AV → Prop) : Prop := if b then aNilI P t op x K else aBin2 P op t x y K
@[go_sem] theorem aBinI_false (op : BinOp) (t : TypeId) (x y : AV) (K : AV → Prop) : aBinI false P op t x y K = aBin2 P op t x y K := (rfl)
@[go_sem] theorem aBinI_true (op : BinOp) (t : TypeId) (x y : AV) (K : AV → Prop) : aBinI true P op t x y K = aNilI P t op x K := (rfl)
def tifc (P : Program) (t : TypeId) : Bool := match P.underlying t with
  | some (.interface _) => true
  | _ => false
def aNlI (b : Bool) (op : BinOp) (x : AV) (K : AV → Prop) : Prop := match b, op, x with
  | true, .eql, .iface _ _ => K (.bool false)
  | true, .neq, .iface _ _ => K (.bool true)
  | true, .eql, .nilIface => K (.bool true)
  | true, .neq, .nilIface => K (.bool false)
  | _, _, _ => False
@[go_sem] theorem aNilI_eq (t : TypeId) (op : BinOp) (x : AV) (K : AV → Prop) : aNilI P t op x K = aNlI (tifc P t) op x K := by
  unfold aNilI aNlI tifc
  cases P.underlying t with
  | none => rfl
  | some d => cases d <;> cases op <;> cases x <;> rfl
@[go_sem] theorem aNlI_ei (t : TypeId) (v : AV) (K : AV → Prop) : aNlI true .eql (.iface t v) K = K (.bool false) := (rfl)
@[go_sem] theorem aNlI_ni (t : TypeId) (v : AV) (K : AV → Prop) : aNlI true .neq (.iface t v) K = K (.bool true) := (rfl)
@[go_sem] theorem aNlI_en (K : AV → Prop) : aNlI true .eql .nilIface K = K (.bool true) := (rfl)
@[go_sem] theorem aNlI_nn (K : AV → Prop) : aNlI true .neq .nilIface K = K (.bool false) := (rfl)
def aBinN (b : Bool) (c : Bool) (P : Program) (op : BinOp) (t : TypeId) (x y : AV) (K : AV → Prop) : Prop := if b then aNilC P t op x K else aBinI c P op t x y K
@[go_sem] theorem aBinN_false (c : Bool) (op : BinOp) (t : TypeId) (x y : AV) (K : AV → Prop) : aBinN false c P op t x y K = aBinI c P op t x y K := (rfl)
@[go_sem] theorem aBinN_true (c : Bool) (op : BinOp) (t : TypeId) (x y : AV) (K : AV → Prop) : aBinN true c P op t x y K = aNilC P t op x K := (rfl)
@[go_sem] theorem isNilC_tmp (t : Tmp) : isNilC (.tmp t) = false := (rfl)
@[go_sem] theorem isNilC_func (t : FuncId) : isNilC (.func t) = false := (rfl)
@[go_sem] theorem isNilC_global (t : Nat) : isNilC (.global t) = false := (rfl)
@[go_sem] theorem isNilC_int (k : IntKind) (n : Int) : isNilC (.const (.int k n)) = false := (rfl)
@[go_sem] theorem isNilC_bool (b : Bool) : isNilC (.const (.bool b)) = false := (rfl)
@[go_sem] theorem isNilC_str (b : ByteArray) : isNilC (.const (.string b)) = false := (rfl)
@[go_sem] theorem isNilC_nilPtr : isNilC (.const (.pointer none)) = false := (rfl)
@[go_sem] theorem isNilC_nilMap : isNilC (.const (.map none)) = false := (rfl)
@[go_sem] theorem isNilC_nilFunc : isNilC (.const .nilFunc) = false := (rfl)
@[go_sem] theorem isNilC_nilIface : isNilC (.const .nilIface) = false := (rfl)
@[go_sem] theorem isNilC_nil : isNilC (.const (.slice none 0 0)) = true := (rfl)
@[go_sem] theorem aOp1_binOp (op : BinOp) (t : TypeId) (x y : Operand) (u : TypeId) (K : KT) : aOp1 P Γ (.binOp op t x y u) K σ h = aBinN (isNilC y) (isNilI y) P op t (ev Γ σ x) (ev Γ σ y) (conV K σ h) := by
  show (match (if isNilC y then some (aNilC P t op (ev Γ σ x) fun v => K v σ h) else if isNilI y then some (aNilI P t op (ev Γ σ x) fun v => K v σ h) else none : Option Prop) with
    | some p => p
    | none => aBin2 P op t (ev Γ σ x) (ev Γ σ y) fun v => K v σ h) = _
  unfold aBinN aBinI
  cases isNilC y <;> cases isNilI y <;> rfl
def aApF (m : Bool) (P : Program) (ts : List TypeId) (xs : List AV) (h : AH) (K : AV → AH → Prop) : Prop := if m then (match ts, xs with
  | [t, u], [s, x] => aAppendM P t u s x h K
  | _, _ => False) else aBuiltin P .append ts xs h K
@[go_sem] theorem aApF_true (t u : TypeId) (s x : AV) (K : AV → AH → Prop) : aApF true P [t, u] [s, x] h K = aAppendM P t u s x h K := (rfl)
@[go_sem] theorem aApF_false (ts : List TypeId) (xs : List AV) (K : AV → AH → Prop) : aApF false P ts xs h K = aBuiltin P .append ts xs h K := (rfl)
@[go_sem] theorem aOp1_append (as : List Operand) (ts : List TypeId) (K : KT) : aOp1 P Γ (.call { callee := .builtin .append, args := as.toArray, argTypes := ts.toArray }) K σ h = aApF (mF σ || mB σ) P ts (as.map (ev Γ σ)) h (conA K σ) := by
  show (match (if (mF σ || mB σ) then some (match ts, as with
      | [t, u], [s, x] => aAppendM P t u (ev Γ σ s) (ev Γ σ x) h fun v h' => K v σ h'
      | _, _ => False) else none : Option Prop) with
    | some p => p
    | none => aBuiltin P .append ts (as.map (ev Γ σ)) h fun v h' => K v σ h') = _
  unfold aApF
  generalize (mF σ || mB σ) = b
  cases b with
  | false => rfl
  | true =>
    simp only [if_true]
    match ts, as with
    | [], _ => rfl
    | [_], _ => rfl
    | [_, _], [] => rfl
    | [_, _], [_] => rfl
    | [_, _], [_, _] => rfl
    | [_, _], _ :: _ :: _ :: _ => rfl
    | _ :: _ :: _ :: _, _ => rfl

@[go_sem] theorem aOp1_len (as : List Operand) (ts : List TypeId) (K : KT) : aOp1 P Γ (.call { callee := .builtin .len, args := as.toArray, argTypes := ts.toArray }) K σ h = aBuiltin P .len ts (as.map (ev Γ σ)) h (conA K σ) := (rfl)
@[go_sem] theorem aOp1_cap (as : List Operand) (ts : List TypeId) (K : KT) : aOp1 P Γ (.call { callee := .builtin .cap, args := as.toArray, argTypes := ts.toArray }) K σ h = aBuiltin P .cap ts (as.map (ev Γ σ)) h (conA K σ) := (rfl)
@[go_sem] theorem aOp1_min (as : List Operand) (ts : List TypeId) (K : KT) : aOp1 P Γ (.call { callee := .builtin .min, args := as.toArray, argTypes := ts.toArray }) K σ h = aBuiltin P .min ts (as.map (ev Γ σ)) h (conA K σ) := (rfl)
@[go_sem] theorem aOp1_max (as : List Operand) (ts : List TypeId) (K : KT) : aOp1 P Γ (.call { callee := .builtin .max, args := as.toArray, argTypes := ts.toArray }) K σ h = aBuiltin P .max ts (as.map (ev Γ σ)) h (conA K σ) := (rfl)
@[go_sem] theorem aOp1_copy (as : List Operand) (ts : List TypeId) (K : KT) : aOp1 P Γ (.call { callee := .builtin .copy, args := as.toArray, argTypes := ts.toArray }) K σ h = aBuiltin P .copy ts (as.map (ev Γ σ)) h (conA K σ) := (rfl)
@[go_sem] theorem aOp1_delete (as : List Operand) (ts : List TypeId) (K : KT) : aOp1 P Γ (.call { callee := .builtin .delete, args := as.toArray, argTypes := ts.toArray }) K σ h = aBuiltin P .delete ts (as.map (ev Γ σ)) h (conA K σ) := (rfl)
@[go_sem] theorem aOp1_clear (as : List Operand) (ts : List TypeId) (K : KT) : aOp1 P Γ (.call { callee := .builtin .clear, args := as.toArray, argTypes := ts.toArray }) K σ h = aBuiltin P .clear ts (as.map (ev Γ σ)) h (conA K σ) := (rfl)
@[go_sem] theorem aOp1_next (it : Operand) (K : KT) : aOp1 P Γ (.next it false) K σ h = aNxt (ev Γ σ it) h (conA K σ) := (rfl)

@[go_sem] theorem aOp1_call (f : Operand) (as : List Operand) (ts : Array TypeId) (K : AV → Tm → AH → Prop) : aOp1 P Γ (.call { callee := .value f, args := as.toArray, argTypes := ts }) K σ h = aCallV P Γ (ev Γ σ f) (as.map (ev Γ σ)) h (aNext K σ) := (rfl)
@[go_sem] theorem aOpD_call (f : Operand) (as : List Operand) (ts : Array TypeId) (K : AV → Tm → AH → Prop) : aOpD P Γ (.call { callee := .value f, args := as.toArray, argTypes := ts }) K σ h = aCallD P Γ (ev Γ σ f) (as.map (ev Γ σ)) h (conV K σ h) := (rfl)

/-! ### What each operation makes of its operands -/
@[go_sem] theorem aBox_eq (t : TypeId) (x : AV) (K : AV → AH → Prop) : aBox t x h K = (x.good = true ∧ K (.ptr (some (h.length, 0))) (h ++ [.row x.cells t])) := (rfl)
@[go_sem] theorem aMakeMap_eq (K : AV → AH → Prop) : aMakeMap h K = K (.map (some h.length)) (h ++ [.map [] 0]) := (rfl)

def aAllocZ (t : TypeId) (z : Option (List AV)) (h : AH) (K : AV → AH → Prop) : Prop := match z with
  | some z => K (.ptr (some (h.length, 0))) (h ++ [.row z t])
  | none => False
@[go_sem] theorem aAlloc_eq (t : TypeId) (K : AV → AH → Prop) : aAlloc P t h K = aAllocZ t (tzc P t) h K := by
  unfold aAlloc aAllocZ tzc
  cases tzero P t <;> rfl
@[go_sem] theorem aAllocZ_some (t : TypeId) (z : List AV) (K : AV → AH → Prop) : aAllocZ t (some z) h K = K (.ptr (some (h.length, 0))) (h ++ [.row z t]) := (rfl)

def aLdT (g : Option (Option Nat)) (cs : List AV) (k : AV → Prop) : Prop := match g with
  | some (some n) => n ≤ cs.length ∧ k (.agg (cs.take n))
  | some none => (match cs with
    | c :: _ => k c
    | [] => False)
  | none => False
@[go_sem] theorem aLd_eq (t : TypeId) (cs : List AV) (k : AV → Prop) : aLd P t cs k = aLdT (tag P t) cs k := by
  unfold aLd tag
  cases P.underlying t with
  | none => rfl
  | some d =>
    simp only
    cases aggD d with
    | true => simp only [if_true]; cases tsz P t <;> rfl
    | false => rfl
@[go_sem] theorem aLdT_agg (n : Nat) (cs : List AV) (k : AV → Prop) : aLdT (some (some n)) cs k = (n ≤ cs.length ∧ k (.agg (cs.take n))) := (rfl)
@[go_sem] theorem aLdT_one (c : AV) (r : List AV) (k : AV → Prop) : aLdT (some none) (c :: r) k = k c := (rfl)

/-- What is read of an object. -/
def aLoadO (P : Program) (t : TypeId) (o : Nat) (ob : Option AObj) (k : AV → Prop) : Prop := match ob with
  | some (.row cs _) => aLd P t (cs.drop o) k
  | _ => False
@[go_sem] theorem aLoad_ptr (t : TypeId) (i o : Nat) (K : AV → AH → Prop) : aLoad P t (.ptr (some (i, o))) h K = aLoadO P t o (h[i]?) (conH K h) := (rfl)
@[go_sem] theorem aLoad_eptr (t : TypeId) (cs : List AV) (K : AV → AH → Prop) : aLoad P t (.eptr cs) h K = aLd P t cs (conH K h) := (rfl)
@[go_sem] theorem aLoadO_row (t : TypeId) (o : Nat) (cs : List AV) (T : TypeId) (k : AV → Prop) : aLoadO P t o (some (.row cs T)) k = aLd P t (cs.drop o) k := (rfl)

def aStoreO (P : Program) (t : TypeId) (o : Nat) (x : AV) (ob : Option AObj) (k : AObj → Prop) : Prop := match ob with
  | some (.row cs T) => tsz P t = some x.cells.length ∧ x.good = true ∧ o + x.cells.length ≤ cs.length ∧ k (.row (splice cs o x.cells) T)
  | _ => False
@[go_sem] theorem aStore_ptr (t : TypeId) (i o : Nat) (x : AV) (K : AH → Prop) : aStore P t (.ptr (some (i, o))) x h K = aStoreO P t o x (h[i]?) (conSet K h i) := by
  unfold aStore aStoreO conSet
  simp only
  split <;> simp_all
@[go_sem] theorem aStoreO_row (t : TypeId) (o : Nat) (x : AV) (cs : List AV) (T : TypeId) (k : AObj → Prop) :
    aStoreO P t o x (some (.row cs T)) k = (tsz P t = some x.cells.length ∧ x.good = true ∧ o + x.cells.length ≤ cs.length ∧ k (.row (splice cs o x.cells) T)) := (rfl)

@[go_sem] theorem aNil_ptr (p : Nat × Nat) (K : AV → Prop) : aNil (.ptr (some p)) K = K (.ptr (some p)) := (rfl)
@[go_sem] theorem aNil_eptr (cs : List AV) (K : AV → Prop) : aNil (.eptr cs) K = K (.eptr cs) := (rfl)
@[go_sem] theorem aNil_func (f : FuncId) (a b : List AV) (K : AV → Prop) : aNil (.func f a b) K = K (.func f a b) := (rfl)
@[go_sem] theorem aNil_yield (l : Nat) (K : AV → Prop) : aNil (.yield l) K = K (.yield l) := (rfl)

def aFA (o : Option Nat) (a : AV) (K : AV → Prop) : Prop := match o with
  | some o => (match a with
    | .ptr (some (i, p)) => K (.ptr (some (i, p + o)))
    | .eptr cs => K (.eptr (cs.drop o))
    | _ => False)
  | none => False
@[go_sem] theorem aFieldAddr_eq (s : TypeId) (a : AV) (f : Nat) (K : AV → Prop) : aFieldAddr P s a f K = aFA (tfo P s f) a K := by
  unfold aFieldAddr tfo tfd
  split
  · rename_i fields hs
    simp only [hs]
    cases hf : fields[f]? with
    | none => simp [aFA]
    | some fd =>
      simp only [Option.map_some]
      cases hz : tsz P fd.type with
      | none => simp [aFA]
      | some n => cases n with
        | zero => simp [aFA]
        | succ n => simp only [aFA]; exact propext ⟨fun h => h.2, fun h => ⟨⟨n, rfl⟩, h⟩⟩
  · rename_i hs
    split
    · rename_i o u hx
      split at hx
      · rename_i fields hs'; exact absurd hs' (hs fields)
      · cases hx
    · rfl
@[go_sem] theorem aFA_ptr (o i p : Nat) (K : AV → Prop) : aFA (some o) (.ptr (some (i, p))) K = K (.ptr (some (i, p + o))) := (rfl)
@[go_sem] theorem aFA_eptr (o : Nat) (cs : List AV) (K : AV → Prop) : aFA (some o) (.eptr cs) K = K (.eptr (cs.drop o)) := (rfl)

def aFv (P : Program) (d : Option (Nat × TypeId)) (x : AV) (K : AV → Prop) : Prop := match d, x with
  | some (o, u), .agg cs => aLd P u (cs.drop o) K
  | _, _ => False
@[go_sem] theorem aField_eq (t : TypeId) (x : AV) (f : Nat) (K : AV → Prop) : aField P t x f K = aFv P (tfd P t f) x K := by
  unfold aField tfd
  cases P.underlying t with
  | none => rfl
  | some d => cases d with
    | struct fields =>
      simp only
      cases fields[f]? <;> cases x <;> rfl
    | _ => rfl
@[go_sem] theorem aFv_agg (o : Nat) (u : TypeId) (cs : List AV) (K : AV → Prop) : aFv P (some (o, u)) (.agg cs) K = aLd P u (cs.drop o) K := (rfl)

def aRow (sz : Nat) (r : Option AV) (K : AV → Prop) : Prop := ∃ x, r = some x ∧ x.cells.length = sz ∧ K (.eptr x.cells)
@[go_sem] theorem aRow_some (sz : Nat) (x : AV) (K : AV → Prop) : aRow sz (some x) K = (x.cells.length = sz ∧ K (.eptr x.cells)) := by
  unfold aRow
  exact propext ⟨fun ⟨y, e, h1, h2⟩ => by cases e; exact ⟨h1, h2⟩, fun ⟨h1, h2⟩ => ⟨x, rfl, h1, h2⟩⟩
def aIx (d : Option (Option Nat × Nat)) (x i : AV) (K : AV → Prop) : Prop := match i with
  | .int _ n => (match d, x with
    | some (none, sz), .sl rows _ => sz ≠ 0 ∧ 0 ≤ n ∧ aRow sz (rows[n.toNat]?) K
    | some (none, sz), .ms j off len _ _ => 0 ≤ n ∧ n < len ∧ K (.ptr (some (j, off + n.toNat * sz)))
    | some (some len, sz), .ptr (some (j, o)) => 0 ≤ n ∧ n < len ∧ K (.ptr (some (j, o + n.toNat * sz)))
    | some (some len, sz), .eptr cs => 0 ≤ n ∧ n < len ∧ K (.eptr (cs.drop (n.toNat * sz)))
    | _, _ => False)
  | _ => False
@[go_sem] theorem aIndexAddr_eq (t : TypeId) (x i : AV) (K : AV → Prop) : aIndexAddr P t x i K = aIx (tel P t) x i K := by
  unfold aIndexAddr tel
  cases i with
  | int k n =>
    simp only
    cases P.underlying t with
    | none => rfl
    | some d => cases d with
      | slice e =>
        simp only
        cases tsz P e with
        | none => rfl
        | some sz => cases x <;> first | rfl | (simp only [Option.map_some, aIx, aRow]; done)
      | array len e =>
        simp only
        cases tsz P e with
        | none => rfl
        | some sz =>
          simp only [Option.map_some, aIx]
          cases x with
          | ptr p => cases p <;> simp
          | eptr cs => rfl
          | _ => simp
      | _ => rfl
  | _ => rfl
@[go_sem] theorem aIx_sl (sz : Nat) (rows : List AV) (own : Own) (k : IntKind) (n : Int) (K : AV → Prop) : aIx (some (none, sz)) (.sl rows own) (.int k n) K = (sz ≠ 0 ∧ 0 ≤ n ∧ aRow sz (rows[n.toNat]?) K) := (rfl)
@[go_sem] theorem aIx_ms (sz j off len c s : Nat) (k : IntKind) (n : Int) (K : AV → Prop) : aIx (some (none, sz)) (.ms j off len c s) (.int k n) K = (0 ≤ n ∧ n < len ∧ K (.ptr (some (j, off + n.toNat * sz)))) := (rfl)
@[go_sem] theorem aIx_ptr (len sz j o : Nat) (k : IntKind) (n : Int) (K : AV → Prop) : aIx (some (some len, sz)) (.ptr (some (j, o))) (.int k n) K = (0 ≤ n ∧ n < len ∧ K (.ptr (some (j, o + n.toNat * sz)))) := (rfl)
@[go_sem] theorem aIx_eptr (len sz : Nat) (cs : List AV) (k : IntKind) (n : Int) (K : AV → Prop) : aIx (some (some len, sz)) (.eptr cs) (.int k n) K = (0 ≤ n ∧ n < len ∧ K (.eptr (cs.drop (n.toNat * sz)))) := (rfl)

def aExO (o : Option AV) (K : AV → Prop) : Prop := match o with
  | some v => K v
  | none => False
@[go_sem] theorem aExtract_tuple (vs : List AV) (i : Nat) (K : AV → Prop) : aExtract (.tuple vs) i K = aExO (vs[i]?) K := by
  cases h : vs[i]? <;> simp [aExtract, aExO, h]
@[go_sem] theorem aExO_some (v : AV) (K : AV → Prop) : aExO (some v) K = K v := (rfl)

@[go_sem] theorem aUn_not (b : Bool) (K : AV → Prop) : aUn .not (.bool b) K = K (.bool (!b)) := (rfl)
@[go_sem] theorem aUn_neg (k : IntKind) (n : Int) (K : AV → Prop) : aUn .neg (.int k n) K = K (.int k (k.wrap (0 - n))) := (rfl)
@[go_sem] theorem aUn_xor (k : IntKind) (n : Int) (K : AV → Prop) : aUn .xor (.int k n) K = K (.int k (bitsOp .xor k (if k.signed then -1 else k.max) n)) := (rfl)

def aCv (d : Option (Option IntKind)) (x : AV) (K : AV → Prop) : Prop := match d, x with
  | some (some k), .int _ n => K (.int k (k.wrap n))
  | some none, .str s => K (.str s)
  | _, _ => False
@[go_sem] theorem aConv_eq (s t : TypeId) (x : AV) (K : AV → Prop) : aConv P s t x K = aCv (tcv P s t) x K := by
  unfold aConv tcv
  cases P.underlying s with
  | none => rfl
  | some d => cases P.underlying t with
    | none => rfl
    | some e => cases e <;> cases x <;> rfl
@[go_sem] theorem aCv_int (k k' : IntKind) (n : Int) (K : AV → Prop) : aCv (some (some k)) (.int k' n) K = K (.int k (k.wrap n)) := (rfl)
@[go_sem] theorem aCv_str (s : ByteArray) (K : AV → Prop) : aCv (some none) (.str s) K = K (.str s) := (rfl)

@[go_sem] theorem aBin_int (op : BinOp) (t : TypeId) (k k' : IntKind) (a b : Int) (K : AV → Prop) : aBin P op t (.int k a) (.int k' b) K = aInt op k a k' b K := (rfl)
@[go_sem] theorem aBin_str (op : BinOp) (t : TypeId) (a b : ByteArray) (K : AV → Prop) : aBin P op t (.str a) (.str b) K = aStr op a b K := (rfl)
theorem tbool_iff (t : TypeId) : P.underlying t = some .bool ↔ tbool P t = true := by
  unfold tbool
  split
  · rename_i h; simp [h]
  · rename_i h; simp only [Bool.false_eq_true, iff_false]; exact fun e => h e
@[go_sem] theorem aBin_beq (t : TypeId) (a b : Bool) (K : AV → Prop) : aBin P .eql t (.bool a) (.bool b) K = (tbool P t = true ∧ K (.bool (a == b))) := by rw [← tbool_iff]; rfl
@[go_sem] theorem aBin_bne (t : TypeId) (a b : Bool) (K : AV → Prop) : aBin P .neq t (.bool a) (.bool b) K = (tbool P t = true ∧ K (.bool (!(a == b)))) := by rw [← tbool_iff]; rfl
@[go_sem] theorem aInt_add (k : IntKind) (a b : Int) (K : AV → Prop) : aInt .add k a k b K = K (.int k (k.wrap (a + b))) := by simp [aInt]
@[go_sem] theorem aInt_sub (k : IntKind) (a b : Int) (K : AV → Prop) : aInt .sub k a k b K = K (.int k (k.wrap (a - b))) := by simp [aInt]
@[go_sem] theorem aInt_mul (k : IntKind) (a b : Int) (K : AV → Prop) : aInt .mul k a k b K = K (.int k (k.wrap (a * b))) := by simp [aInt]
@[go_sem] theorem aInt_quo (k : IntKind) (a b : Int) (K : AV → Prop) : aInt .quo k a k b K = (b ≠ 0 ∧ K (.int k (k.wrap (a.tdiv b)))) := by simp [aInt]
@[go_sem] theorem aInt_rem (k : IntKind) (a b : Int) (K : AV → Prop) : aInt .rem k a k b K = (b ≠ 0 ∧ K (.int k (a.tmod b))) := by simp [aInt]
@[go_sem] theorem aInt_shl (k k' : IntKind) (a b : Int) (K : AV → Prop) : aInt .shl k a k' b K = (0 ≤ b ∧ K (.int k (k.wrap (a * 2 ^ (min b.toNat k.bits))))) := (rfl)
@[go_sem] theorem aInt_shr (k k' : IntKind) (a b : Int) (K : AV → Prop) : aInt .shr k a k' b K = (0 ≤ b ∧ K (.int k (a.fdiv (2 ^ (min b.toNat k.bits))))) := (rfl)
@[go_sem] theorem aInt_eql (k : IntKind) (a b : Int) (K : AV → Prop) : aInt .eql k a k b K = K (.bool (decide (a = b))) := by simp [aInt]
@[go_sem] theorem aInt_neq (k : IntKind) (a b : Int) (K : AV → Prop) : aInt .neq k a k b K = K (.bool (decide (¬ a = b))) := by simp [aInt]
@[go_sem] theorem aInt_lss (k : IntKind) (a b : Int) (K : AV → Prop) : aInt .lss k a k b K = K (.bool (decide (a < b))) := by simp [aInt]
@[go_sem] theorem aInt_leq (k : IntKind) (a b : Int) (K : AV → Prop) : aInt .leq k a k b K = K (.bool (decide (a ≤ b))) := by simp [aInt]
@[go_sem] theorem aInt_gtr (k : IntKind) (a b : Int) (K : AV → Prop) : aInt .gtr k a k b K = K (.bool (decide (b < a))) := by simp [aInt]
@[go_sem] theorem aInt_geq (k : IntKind) (a b : Int) (K : AV → Prop) : aInt .geq k a k b K = K (.bool (decide (b ≤ a))) := by simp [aInt]
@[go_sem] theorem aInt_and (k : IntKind) (a b : Int) (K : AV → Prop) : aInt .and k a k b K = K (.int k (bitsOp .and k a b)) := by simp [aInt]
@[go_sem] theorem aInt_or (k : IntKind) (a b : Int) (K : AV → Prop) : aInt .or k a k b K = K (.int k (bitsOp .or k a b)) := by simp [aInt]
@[go_sem] theorem aInt_xor (k : IntKind) (a b : Int) (K : AV → Prop) : aInt .xor k a k b K = K (.int k (bitsOp .xor k a b)) := by simp [aInt]
@[go_sem] theorem aInt_andNot (k : IntKind) (a b : Int) (K : AV → Prop) : aInt .andNot k a k b K = K (.int k (bitsOp .andNot k a b)) := by simp [aInt]
@[go_sem] theorem aStr_add (a b : ByteArray) (K : AV → Prop) : aStr .add a b K = (a.size + b.size ≤ 9223372036854775807 ∧ K (.str (a ++ b))) := (rfl)
@[go_sem] theorem aStr_eql (a b : ByteArray) (K : AV → Prop) : aStr .eql a b K = K (.bool (a.toList == b.toList)) := (rfl)
@[go_sem] theorem aStr_neq (a b : ByteArray) (K : AV → Prop) : aStr .neq a b K = K (.bool (!(a.toList == b.toList))) := (rfl)
@[go_sem] theorem aStr_lss (a b : ByteArray) (K : AV → Prop) : aStr .lss a b K = K (.bool (Op.bytesLess a.toList b.toList)) := (rfl)
@[go_sem] theorem aStr_leq (a b : ByteArray) (K : AV → Prop) : aStr .leq a b K = K (.bool (Op.bytesLess a.toList b.toList || a.toList == b.toList)) := (rfl)
@[go_sem] theorem aStr_gtr (a b : ByteArray) (K : AV → Prop) : aStr .gtr a b K = K (.bool (!(Op.bytesLess a.toList b.toList || a.toList == b.toList))) := (rfl)
@[go_sem] theorem aStr_geq (a b : ByteArray) (K : AV → Prop) : aStr .geq a b K = K (.bool (!(Op.bytesLess a.toList b.toList))) := (rfl)

/-! ### Literals -/
def aFillP (pl : List (Nat × Nat)) (cs : List AV) (ps : List (Nat × AV)) (k : List AV → Prop) : Prop := aFill (fun i => pl[i]?) cs ps k
def aFillR (pl : List (Nat × Nat)) (ps : List (Nat × AV)) (k : List AV → Prop) (cs : List AV) : Prop := aFillP pl cs ps k
@[go_sem] theorem aFillR_eq (pl : List (Nat × Nat)) (ps : List (Nat × AV)) (k : List AV → Prop) (cs : List AV) : aFillR pl ps k cs = aFillP pl cs ps k := (rfl)
def aFillO (d : Option (Nat × Nat)) (x : AV) (cs : List AV) (k : List AV → Prop) : Prop := match d with
  | none => False
  | some (o, n) => x.cells.length = n ∧ (x.one = true ∨ ∃ cs, x = .agg cs) ∧ o + n ≤ cs.length ∧ k (splice cs o x.cells)
@[go_sem] theorem aFillP_nil (pl : List (Nat × Nat)) (cs : List AV) (k : List AV → Prop) : aFillP pl cs [] k = k cs := (rfl)
@[go_sem] theorem aFillP_cons (pl : List (Nat × Nat)) (cs : List AV) (i : Nat) (x : AV) (r : List (Nat × AV)) (k : List AV → Prop) : aFillP pl cs ((i, x) :: r) k = aFillO (pl[i]?) x cs (aFillR pl r k) := by
  unfold aFillR aFillP aFillO
  rw [aFill]
  cases pl[i]? with
  | none => rfl
  | some p =>
    obtain ⟨o, n⟩ := p
    simp only
@[go_sem] theorem aFillO_some (o n : Nat) (x : AV) (cs : List AV) (k : List AV → Prop) : aFillO (some (o, n)) x cs k = (x.cells.length = n ∧ (x.one = true ∨ ∃ cs, x = .agg cs) ∧ o + n ≤ cs.length ∧ k (splice cs o x.cells)) := (rfl)
def aBld (pl : Option (List (Nat × Nat))) (z : Option (List AV)) (ps : List (Nat × AV)) (K : AV → Prop) : Prop := match pl, z with
  | some pl, some z => aFillP pl z ps fun cs => K (.agg cs)
  | _, _ => False
theorem aBuild_of {t : TypeId} {ps : List (Nat × AV)} {K : AV → Prop} (H : aBld (tpl P t) (tzc P t) ps K) : aBuild P t ps K := by
  unfold aBuild
  unfold aBld tpl tzc at H
  split at H
  · rename_i pl z h1 h2
    split at h1
    · rename_i fields hd
      cases hz : tzero P t with
      | none => rw [hz] at h2; cases h2
      | some zz =>
        rw [hz] at h2
        simp only [Option.map_some, Option.some.injEq] at h2
        simp only [hd, h1]
        rw [h2]
        exact H
    · cases h1
  · exact H.elim
theorem aBld_of {t : TypeId} {ps : List (Nat × AV)} {K : AV → Prop} (hs : ∃ fs, P.underlying t = some (.struct fs)) (H : aBuild P t ps K) : aBld (tpl P t) (tzc P t) ps K := by
  obtain ⟨fs, hs⟩ := hs
  unfold aBuild at H
  unfold aBld tpl tzc
  simp only [hs] at H ⊢
  cases hz : tzero P t with
  | none => rw [hz] at H; exact H.elim
  | some z =>
    rw [hz] at H
    simp only at H
    cases hp : aPlaces P fs.toList with
    | none => rw [hp] at H; exact H.elim
    | some pl => rw [hp] at H; exact H
theorem aBuild_eq {t : TypeId} (hs : (tpl P t).isSome = true) (ps : List (Nat × AV)) (K : AV → Prop) : aBuild P t ps K = aBld (tpl P t) (tzc P t) ps K := by
  refine propext ⟨fun H => aBld_of ?_ H, aBuild_of⟩
  unfold tpl at hs
  split at hs
  · exact ⟨_, by assumption⟩
  · cases hs
@[go_sem] theorem aBld_some (pl : List (Nat × Nat)) (z : List AV) (ps : List (Nat × AV)) (K : AV → Prop) : aBld (some pl) (some z) ps K = aFillP pl z ps (conAgg K) := (rfl)

/-- An array's literal. -/
def aFillA (s : Nat) (cs : List AV) (ps : List (Nat × AV)) (k : List AV → Prop) : Prop := aFill (fun i => some (i * s, s)) cs ps k
def aFillAR (s : Nat) (r : List (Nat × AV)) (k : List AV → Prop) (cs : List AV) : Prop := aFillA s cs r k
def aBldA (d : Option (Nat × Nat)) (z : Option (List AV)) (ps : List (Nat × AV)) (K : AV → Prop) : Prop := match d, z with
  | some (_, s), some z => aFillA s z ps (conAgg K)
  | _, _ => False
@[go_sem] theorem aBldA_some (n s : Nat) (z : List AV) (ps : List (Nat × AV)) (K : AV → Prop) : aBldA (some (n, s)) (some z) ps K = aFillA s z ps (conAgg K) := (rfl)
@[go_sem] theorem aFillA_nil (s : Nat) (cs : List AV) (k : List AV → Prop) : aFillA s cs [] k = k cs := (rfl)
@[go_sem] theorem aFillA_cons (s : Nat) (cs : List AV) (i : Nat) (x : AV) (r : List (Nat × AV)) (k : List AV → Prop) : aFillA s cs ((i, x) :: r) k = aFillO (some (i * s, s)) x cs (aFillAR s r k) := by
  unfold aFillAR aFillA aFillO
  rw [aFill]
@[go_sem] theorem aFillAR_eq (s : Nat) (r : List (Nat × AV)) (k : List AV → Prop) (cs : List AV) : aFillAR s r k cs = aFillA s cs r k := (rfl)
theorem aBuildA_eq {t : TypeId} (hs : (tarr P t).isSome = true) (ps : List (Nat × AV)) (K : AV → Prop) : aBuild P t ps K = aBldA (tarr P t) (tzc P t) ps K := by
  unfold tarr at hs ⊢
  unfold aBuild aBldA tzc
  split at hs
  · rename_i n e hu
    simp only [hu]
    cases hz : tsz P e with
    | none => rw [hz] at hs; cases hs
    | some s =>
      cases tzero P t with
      | none => rfl
      | some z =>
        show (match tsz P e with
          | some n => aFill (fun i => some (i * n, n)) (z.cells.toList.map ofV1) ps fun cs => K (.agg cs)
          | none => False) = _
        rw [hz]; rfl
  · cases hs
def aBS (d : Option Nat) (len : Nat) (ps : List (Nat × AV)) (K : AV → Prop) : Prop := match d with
  | some n => len * n ≤ 16777216 ∧ ps.map (·.1) = List.range len ∧ (∀ p ∈ ps, p.2.cells.length = n ∧ (p.2.one = true ∨ ∃ cs, p.2 = .agg cs)) ∧ K (.sl (ps.map (·.2)) .full)
  | none => False
@[go_sem] theorem aBuildSlice_eq (t : TypeId) (len : Nat) (ps : List (Nat × AV)) (K : AV → Prop) : aBuildSlice P t len ps K = aBS (tbs P t) len ps K := by
  unfold aBuildSlice tbs
  cases P.underlying t with
  | none => rfl
  | some d => cases d with
    | slice e =>
      simp only
      cases tsz P e with
      | none => rfl
      | some n => cases tzero P e with
        | none => rfl
        | some z =>
          simp only
          by_cases hc : n ≠ 0 ∧ z.cells.size = n
          · rw [if_pos hc]; simp only [aBS]; exact propext ⟨fun h => h.2.2, fun h => ⟨hc.1, hc.2, h⟩⟩
          · rw [if_neg hc]; simp only [aBS]; exact propext ⟨fun h => hc ⟨h.1, h.2.1⟩, fun h => h.elim⟩
    | _ => rfl
/-- The places of a slice's literal are all, in order. -/
def rIs : List (Nat × AV) → Nat → Nat → Bool
  | [], i, n => Nat.beq i n
  | p :: r, i, n => Nat.beq p.1 i && rIs r (i + 1) n
/-- Is it an aggregate? -/
def AV.isAgg : AV → Bool
  | .agg _ => true
  | _ => false
/-- The elements of a slice's literal fit. -/
def pOK (n : Nat) : List (Nat × AV) → Prop
  | [] => True
  | p :: r => p.2.cells.length = n ∧ (p.2.one || p.2.isAgg) = true ∧ pOK n r
theorem rIs_range : ∀ (ps : List (Nat × AV)) (i n : Nat), rIs ps i n = true → ps.map (·.1) = (List.range (n - i)).map (i + ·) ∧ i ≤ n
  | [], i, n, h => by
    have := Nat.eq_of_beq_eq_true h
    subst this; simp
  | p :: r, i, n, h => by
    simp only [rIs, Bool.and_eq_true] at h
    have h1 := Nat.eq_of_beq_eq_true h.1
    obtain ⟨h2, h3⟩ := rIs_range r (i + 1) n h.2
    refine ⟨?_, by omega⟩
    rw [List.map_cons, h2, h1, show n - i = (n - (i + 1)) + 1 by omega, List.range_succ_eq_map]
    simp only [List.map_cons, List.map_map, Nat.add_zero]
    congr 1
    exact List.map_congr_left fun a _ => by simp only [Function.comp]; omega
theorem pOK_all {n : Nat} : ∀ {ps : List (Nat × AV)}, pOK n ps → ∀ p ∈ ps, p.2.cells.length = n ∧ (p.2.one = true ∨ ∃ cs, p.2 = .agg cs)
  | [], _, p, hp => by cases hp
  | q :: r, h, p, hp => by
    rcases List.mem_cons.1 hp with rfl | hp
    · refine ⟨h.1, ?_⟩
      have := h.2.1
      rw [Bool.or_eq_true] at this
      rcases this with h | h
      · exact .inl h
      · right
        revert h
        generalize p.2 = a
        cases a <;> simp [AV.isAgg]
    · exact pOK_all h.2.2 p hp
theorem rIs_of : ∀ (ps : List (Nat × AV)) (i n : Nat), i ≤ n → ps.map (·.1) = (List.range (n - i)).map (i + ·) → rIs ps i n = true
  | [], i, n, hi, h => by
    have := congrArg List.length h
    simp at this
    rw [rIs, show i = n by omega]; exact Nat.beq_refl n
  | p :: r, i, n, hi, h => by
    have hl := congrArg List.length h
    simp at hl
    rw [show n - i = (n - (i + 1)) + 1 by omega, List.range_succ_eq_map] at h
    simp only [List.map_cons, List.map_map, Nat.add_zero, List.cons.injEq] at h
    simp only [rIs, Bool.and_eq_true]
    refine ⟨by rw [h.1]; exact Nat.beq_refl i, rIs_of r (i + 1) n (by omega) ?_⟩
    rw [h.2]
    exact List.map_congr_left fun a _ => by simp only [Function.comp]; omega
theorem pOK_of {n : Nat} : ∀ {ps : List (Nat × AV)}, (∀ p ∈ ps, p.2.cells.length = n ∧ (p.2.one = true ∨ ∃ cs, p.2 = .agg cs)) → pOK n ps
  | [], _ => trivial
  | q :: r, h => by
    refine ⟨(h q (List.mem_cons_self ..)).1, ?_, pOK_of fun p hp => h p (List.mem_cons_of_mem _ hp)⟩
    rcases (h q (List.mem_cons_self ..)).2 with e | ⟨cs, e⟩
    · rw [e]; rfl
    · rw [e]; rfl
@[go_sem] theorem aBS_some (n len : Nat) (ps : List (Nat × AV)) (K : AV → Prop) : aBS (some n) len ps K = (len * n ≤ 16777216 ∧ rIs ps 0 len = true ∧ pOK n ps ∧ K (.sl (ps.map (·.2)) .full)) := by
  refine propext ⟨fun H => ⟨H.1, rIs_of ps 0 len (Nat.zero_le _) (by rw [H.2.1]; simp), pOK_of H.2.2.1, H.2.2.2⟩, fun H => ⟨H.1, ?_, pOK_all H.2.2.1, H.2.2.2⟩⟩
  have := (rIs_range ps 0 len H.2.1).1
  simpa using this
@[go_sem] theorem rIs_cons (p : Nat × AV) (r : List (Nat × AV)) (i n : Nat) : rIs (p :: r) i n = (Nat.beq p.1 i && rIs r (i + 1) n) := (rfl)
@[go_sem] theorem rIs_nil (i n : Nat) : rIs [] i n = Nat.beq i n := (rfl)
@[go_sem] theorem beq_self (n : Nat) : Nat.beq n n = true := Nat.beq_refl n
@[go_sem] theorem pOK_cons (n : Nat) (p : Nat × AV) (r : List (Nat × AV)) : pOK n (p :: r) = (p.2.cells.length = n ∧ (p.2.one || p.2.isAgg) = true ∧ pOK n r) := (rfl)
@[go_sem] theorem pOK_nil (n : Nat) : pOK n [] = True := (rfl)
@[go_sem] theorem isAgg_agg (l : List AV) : (AV.agg l).isAgg = true := (rfl)

/-! ### Later operations -/
@[go_sem] theorem aBin2_int (op : BinOp) (t : TypeId) (k k' : IntKind) (a b : Int) (K : AV → Prop) : aBin2 P op t (.int k a) (.int k' b) K = aBin P op t (.int k a) (.int k' b) K := (rfl)
@[go_sem] theorem aBin2_str (op : BinOp) (t : TypeId) (a b : ByteArray) (K : AV → Prop) : aBin2 P op t (.str a) (.str b) K = aBin P op t (.str a) (.str b) K := (rfl)
@[go_sem] theorem aBin2_bool (op : BinOp) (t : TypeId) (a b : Bool) (K : AV → Prop) : aBin2 P op t (.bool a) (.bool b) K = aBin P op t (.bool a) (.bool b) K := (rfl)
@[go_sem] theorem aBin2_agg (op : BinOp) (t : TypeId) (xs ys : List AV) (K : AV → Prop) : aBin2 P op t (.agg xs) (.agg ys) K = aEqA (teqS P t) (teq P t) op xs ys K := (rfl)
@[go_sem] theorem aEqA_some (l : List (Nat × CK)) (d : Option (IntKind × Nat)) (op : BinOp) (xs ys : List AV) (K : AV → Prop) : aEqA (some l) d op xs ys K = aEqO op (eqS xs ys l) K := (rfl)
@[go_sem] theorem aEqA_none (d : Option (IntKind × Nat)) (op : BinOp) (xs ys : List AV) (K : AV → Prop) : aEqA none d op xs ys K = aEqT d op xs ys K := (rfl)
@[go_sem] theorem eqS_nil (xs ys : List AV) : eqS xs ys [] = some true := (rfl)
@[go_sem] theorem eqS_cons (xs ys : List AV) (o : Nat) (k : CK) (r : List (Nat × CK)) : eqS xs ys ((o, k) :: r) = andO (eqCellO k xs[o]? ys[o]?) (eqS xs ys r) := (rfl)
@[go_sem] theorem andO_some (a b : Bool) : andO (some a) (some b) = some (a && b) := (rfl)
@[go_sem] theorem eqCellO_some (k : CK) (a c : AV) : eqCellO k (some a) (some c) = eqCell k a c := (rfl)
@[go_sem] theorem eqCell_int (k : IntKind) (a c : Int) : eqCell .int (.int k a) (.int k c) = some (decide (a = c)) := by simp [eqCell]
@[go_sem] theorem eqCell_bool (a c : Bool) : eqCell .bool (.bool a) (.bool c) = some (a == c) := (rfl)
@[go_sem] theorem eqCell_str (a c : ByteArray) : eqCell .str (.str a) (.str c) = some (a.toList == c.toList) := (rfl)
@[go_sem] theorem aEqT_some (k : IntKind) (n : Nat) (op : BinOp) (xs ys : List AV) (K : AV → Prop) : aEqT (some (k, n)) op xs ys K = (xs.length = n ∧ aEqO op (eqI k xs ys) K) := (rfl)
@[go_sem] theorem aEqO_eql (b : Bool) (K : AV → Prop) : aEqO .eql (some b) K = K (.bool b) := (rfl)
@[go_sem] theorem aEqO_neq (b : Bool) (K : AV → Prop) : aEqO .neq (some b) K = K (.bool (!b)) := (rfl)
@[go_sem] theorem eqI_nil (k : IntKind) : eqI k [] [] = some true := (rfl)
@[go_sem] theorem eqI_cons (k : IntKind) (a b : Int) (r s : List AV) : eqI k (.int k a :: r) (.int k b :: s) = (eqI k r s).map fun t => decide (a = b) && t := by simp [eqI]
@[go_sem] theorem aConv2_int (s t : TypeId) (k : IntKind) (n : Int) (K : AV → Prop) : aConv2 P s t (.int k n) K = aConv P s t (.int k n) K := (rfl)
@[go_sem] theorem aConv2_str (s t : TypeId) (b : ByteArray) (K : AV → Prop) : aConv2 P s t (.str b) K = aConv P s t (.str b) K := (rfl)
@[go_sem] theorem aConv2_sl (s t : TypeId) (rows : List AV) (o : Own) (K : AV → Prop) : aConv2 P s t (.sl rows o) K = (tb2s P s t = true ∧ aB2S (bytesOf rows) K) := (rfl)
@[go_sem] theorem aB2S_some (l : List UInt8) (K : AV → Prop) : aB2S (some l) K = K (.str ⟨l.toArray⟩) := (rfl)
@[go_sem] theorem aSlice2_ptr (t : TypeId) (a : Option (Nat × Nat)) (K : AV → Prop) : aSlice2 P t (.ptr a) none none none K = aCutA (tarr P t) (.ptr a) K := (rfl)
@[go_sem] theorem aSlice2_eptr (t : TypeId) (cs : List AV) (K : AV → Prop) : aSlice2 P t (.eptr cs) none none none K = aCutA (tarr P t) (.eptr cs) K := (rfl)
@[go_sem] theorem aSlice2_sl (t : TypeId) (r : List AV) (o : Own) (lo hi mx : Option AV) (K : AV → Prop) : aSlice2 P t (.sl r o) lo hi mx K = aSlice P t (.sl r o) lo hi mx K := (rfl)
@[go_sem] theorem aSlice2_str (t : TypeId) (b : ByteArray) (lo hi mx : Option AV) (K : AV → Prop) : aSlice2 P t (.str b) lo hi mx K = aSlice P t (.str b) lo hi mx K := (rfl)
@[go_sem] theorem aSlice2_ms (t : TypeId) (i off len cap sz : Nat) (lo hi mx : Option AV) (K : AV → Prop) : aSlice2 P t (.ms i off len cap sz) lo hi mx K = aSlice P t (.ms i off len cap sz) lo hi mx K := (rfl)
@[go_sem] theorem aCutA_ptr (n s i o : Nat) (K : AV → Prop) : aCutA (some (n, s)) (.ptr (some (i, o))) K = K (.ms i o n n s) := (rfl)
@[go_sem] theorem aCutA_eptr (n s : Nat) (cs : List AV) (K : AV → Prop) : aCutA (some (n, s)) (.eptr cs) K = (cs.length = n ∧ s = 1 ∧ (∀ c ∈ cs, c.one = true) ∧ K (.sl cs .free)) := (rfl)
@[go_sem] theorem aMin_int (k : IntKind) (a b : Int) (K : AV → Prop) : aMin (.int k a) (.int k b) K = K (.int k (if b < a then b else a)) := by simp [aMin]
@[go_sem] theorem aMax_int (k : IntKind) (a b : Int) (K : AV → Prop) : aMax (.int k a) (.int k b) K = K (.int k (if a < b then b else a)) := by simp [aMax]
@[go_sem] theorem aBuiltin_min (ts : List TypeId) (x y : AV) (K : AV → AH → Prop) : aBuiltin P .min ts [x, y] h K = aMin x y (conH K h) := (rfl)
@[go_sem] theorem aBuiltin_max (ts : List TypeId) (x y : AV) (K : AV → AH → Prop) : aBuiltin P .max ts [x, y] h K = aMax x y (conH K h) := (rfl)

/-! ### Cuts -/
def aCut (d : Option (Option Nat)) (x : AV) (lo hi mx : Option AV) (K : AV → Prop) : Prop := match d, x with
  | some none, .str s => mx = none ∧ (match aNat 0 lo, aNat s.size hi with
    | some l, some h => 0 ≤ l ∧ l ≤ h ∧ h ≤ s.size ∧ K (.str (s.extract l.toNat h.toNat))
    | _, _ => False)
  | some (some n), .sl rows own => (match aNat 0 lo, aNat rows.length hi, aNat rows.length mx with
    | some l, some h, some m => RowsOK n rows ∧ 0 ≤ l ∧ l ≤ h ∧ h ≤ m ∧ m ≤ rows.length ∧ (mx.isSome = true → hi.isSome = true) ∧ K (.sl ((rows.take h.toNat).drop l.toNat) (cutOwn own rows.length l h mx))
    | _, _, _ => False)
  | some (some n), .ms i off len cap sz => (match aNat 0 lo, aNat len hi, aNat cap mx with
    | some l, some h, some m => n = sz ∧ 0 ≤ l ∧ l ≤ h ∧ h ≤ m ∧ m ≤ cap ∧ (mx.isSome = true → hi.isSome = true) ∧ K (.ms i (if m = l then off else off + l.toNat * sz) (h.toNat - l.toNat) (m.toNat - l.toNat) sz)
    | _, _, _ => False)
  | _, _ => False
@[go_sem] theorem aSlice_eq (t : TypeId) (x : AV) (lo hi mx : Option AV) (K : AV → Prop) : aSlice P t x lo hi mx K = aCut (tcut P t) x lo hi mx K := by
  unfold aSlice tcut
  cases P.underlying t with
  | none => rfl
  | some d => cases d with
    | string => cases x <;> rfl
    | slice e =>
      simp only
      cases hz : tsz P e with
      | none => cases x <;> simp only [Option.map_none, hz, aCut]
      | some n =>
        cases x <;> simp only [Option.map_some, hz, aCut]
        · rename_i rows own
          generalize hq : aNat 0 lo = q1
          generalize aNat rows.length hi = q2
          generalize aNat rows.length mx = q3
          cases q1 <;> cases q2 <;> cases q3 <;> rfl
        · rename_i i off len cap sz
          generalize hq : aNat 0 lo = q1
          generalize aNat len hi = q2
          generalize aNat cap mx = q3
          cases q1 <;> cases q2 <;> cases q3 <;> rfl
    | _ => rfl
@[go_sem] theorem aCut_lo (n : Nat) (rows : List AV) (own : Own) (k : IntKind) (l : Int) (K : AV → Prop) :
    aCut (some (some n)) (.sl rows own) (some (.int k l)) none none K = (RowsOK n rows ∧ 0 ≤ l ∧ l ≤ rows.length ∧ K (.sl (rows.drop l.toNat) (cutOwn own rows.length l rows.length none))) := by
  simp only [aCut, aNat, Option.isSome_none, Bool.false_eq_true, false_implies, Int.le_refl, true_and, Int.toNat_natCast, List.take_length]
@[go_sem] theorem aCut_hi (n : Nat) (rows : List AV) (own : Own) (k : IntKind) (u : Int) (K : AV → Prop) :
    aCut (some (some n)) (.sl rows own) none (some (.int k u)) none K = (RowsOK n rows ∧ 0 ≤ u ∧ u ≤ rows.length ∧ K (.sl (rows.take u.toNat) (cutOwn own rows.length 0 u none))) := by
  refine propext ⟨fun h => ?_, fun h => ?_⟩
  · obtain ⟨h1, _, h3, h4, _, _, h7⟩ := h
    exact ⟨h1, h3, h4, h7⟩
  · obtain ⟨h1, h3, h4, h7⟩ := h
    exact ⟨h1, Int.le_refl _, h3, h4, Int.le_refl _, (fun _ => rfl), h7⟩
@[go_sem] theorem aCut_both (n : Nat) (rows : List AV) (own : Own) (k k' : IntKind) (l u : Int) (K : AV → Prop) :
    aCut (some (some n)) (.sl rows own) (some (.int k l)) (some (.int k' u)) none K = (RowsOK n rows ∧ 0 ≤ l ∧ l ≤ u ∧ u ≤ rows.length ∧ K (.sl ((rows.take u.toNat).drop l.toNat) (cutOwn own rows.length l u none))) := by
  refine propext ⟨fun h => ?_, fun h => ?_⟩
  · obtain ⟨h1, h2, h3, h4, _, _, h7⟩ := h
    exact ⟨h1, h2, h3, h4, h7⟩
  · obtain ⟨h1, h2, h3, h4, h7⟩ := h
    exact ⟨h1, h2, h3, h4, Int.le_refl _, (fun _ => rfl), h7⟩
@[go_sem] theorem aCut_hm (n : Nat) (rows : List AV) (own : Own) (k k' : IntKind) (u m : Int) (K : AV → Prop) :
    aCut (some (some n)) (.sl rows own) none (some (.int k u)) (some (.int k' m)) K = (RowsOK n rows ∧ 0 ≤ u ∧ u ≤ m ∧ m ≤ rows.length ∧ K (.sl (rows.take u.toNat) (if m = u then .full else .free))) := by
  refine propext ⟨fun h => ?_, fun h => ?_⟩
  · obtain ⟨h1, _, h3, h4, h5, _, h7⟩ := h
    exact ⟨h1, h3, h4, h5, h7⟩
  · obtain ⟨h1, h3, h4, h5, h7⟩ := h
    exact ⟨h1, Int.le_refl _, h3, h4, h5, (fun _ => rfl), h7⟩
@[go_sem] theorem aCut_all (n : Nat) (rows : List AV) (own : Own) (K : AV → Prop) :
    aCut (some (some n)) (.sl rows own) none none none K = (RowsOK n rows ∧ K (.sl rows (cutOwn own rows.length 0 rows.length none))) := by
  refine propext ⟨fun h => ?_, fun h => ?_⟩
  · obtain ⟨h1, _, _, _, _, _, h7⟩ := h
    refine ⟨h1, ?_⟩
    simpa using h7
  · obtain ⟨h1, h7⟩ := h
    exact ⟨h1, Int.le_refl _, Int.natCast_nonneg _, Int.le_refl _, Int.le_refl _, (fun e => e), by simpa using h7⟩
@[go_sem] theorem aCut_str (s : ByteArray) (k k' : IntKind) (l u : Int) (K : AV → Prop) :
    aCut (some none) (.str s) (some (.int k l)) (some (.int k' u)) none K = (0 ≤ l ∧ l ≤ u ∧ u ≤ s.size ∧ K (.str (s.extract l.toNat u.toNat))) := by simp only [aCut, aNat, true_and]
@[go_sem] theorem aCut_strlo (s : ByteArray) (k : IntKind) (l : Int) (K : AV → Prop) :
    aCut (some none) (.str s) (some (.int k l)) none none K = (0 ≤ l ∧ l ≤ s.size ∧ K (.str (s.extract l.toNat s.size))) := by simp only [aCut, aNat, true_and, Int.le_refl, Int.toNat_natCast]
@[go_sem] theorem aCut_strhi (s : ByteArray) (k : IntKind) (u : Int) (K : AV → Prop) :
    aCut (some none) (.str s) none (some (.int k u)) none K = (0 ≤ u ∧ u ≤ s.size ∧ K (.str (s.extract 0 u.toNat))) := by
  refine propext ⟨fun h => ?_, fun h => ?_⟩
  · obtain ⟨_, _, h3, h4, h7⟩ := h
    exact ⟨h3, h4, h7⟩
  · obtain ⟨h3, h4, h7⟩ := h
    exact ⟨rfl, Int.le_refl _, h3, h4, h7⟩
@[go_sem] theorem cutOwn_free (n : Nat) (l u : Int) : cutOwn .free n l u none = .free := (rfl)
@[go_sem] theorem omap_none (f : Operand → AV) : (none : Option Operand).map f = none := (rfl)
@[go_sem] theorem omap_some (f : Operand → AV) (x : Operand) : (some x).map f = some (f x) := (rfl)

/-! ### Lengths, append, cuts, maps -/
@[go_sem] theorem aBuiltin_len (t : TypeId) (x : AV) (K : AV → AH → Prop) : aBuiltin P .len [t] [x] h K = aLen P t x h (conH K h) := (rfl)
@[go_sem] theorem aBuiltin_append (t u : TypeId) (s x : AV) (K : AV → AH → Prop) : aBuiltin P .append [t, u] [s, x] h K = aAppend P t u s x h K := (rfl)
def aMapLen (ob : Option AObj) (K : AV → Prop) : Prop := match ob with
  | some (.map es _) => K (.int .i64 es.length)
  | _ => False
@[go_sem] theorem aMapLen_map (es : List (Nat × AV × AV)) (c : Nat) (K : AV → Prop) : aMapLen (some (.map es c)) K = K (.int .i64 es.length) := (rfl)
def aLn (d : Option LenOf) (x : AV) (h : AH) (K : AV → Prop) : Prop := match d, x with
  | some .str, .str s => K (.int .i64 s.size)
  | some .sl, .sl rows _ => K (.int .i64 rows.length)
  | some .sl, .ms _ _ len _ _ => K (.int .i64 len)
  | some (.arr n), _ => K (.int .i64 n)
  | some .map, .map none => K (.int .i64 0)
  | some .map, .map (some i) => aMapLen (h[i]?) K
  | _, _ => False
@[go_sem] theorem aLen_eq (t : TypeId) (x : AV) (K : AV → Prop) : aLen P t x h K = aLn (tlen P t) x h K := by
  unfold aLen tlen
  cases P.underlying t with
  | none => rfl
  | some d => cases d <;> cases x <;> first | rfl | (rename_i p; cases p <;> rfl)
@[go_sem] theorem aLn_str (s : ByteArray) (K : AV → Prop) : aLn (some .str) (.str s) h K = K (.int .i64 s.size) := (rfl)
@[go_sem] theorem aLn_sl (r : List AV) (o : Own) (K : AV → Prop) : aLn (some .sl) (.sl r o) h K = K (.int .i64 r.length) := (rfl)
@[go_sem] theorem aLn_ms (i o l c s : Nat) (K : AV → Prop) : aLn (some .sl) (.ms i o l c s) h K = K (.int .i64 l) := (rfl)
@[go_sem] theorem aLn_arr (n : Nat) (x : AV) (K : AV → Prop) : aLn (some (.arr n)) x h K = K (.int .i64 n) := (rfl)
@[go_sem] theorem aLn_nilMap (K : AV → Prop) : aLn (some .map) (.map none) h K = K (.int .i64 0) := (rfl)
@[go_sem] theorem aLn_map (i : Nat) (K : AV → Prop) : aLn (some .map) (.map (some i)) h K = aMapLen (h[i]?) K := (rfl)

/-! ### Maps -/
/-- Does a key fit a map's keys? -/
def keyIs : Bool → AV → Bool
  | true, .int _ _ => true
  | false, .str _ => true
  | _, _ => false
def aLk (d : Option (Bool × AV)) (m k : AV) (ok : Bool) (h : AH) (K : AV → Prop) : Prop := match d with
  | some (b, z) => keyIs b k = true ∧ aLkM z m k ok h K
  | none => False
@[go_sem] theorem keyIs_int (k : IntKind) (n : Int) : keyIs true (.int k n) = true := (rfl)
@[go_sem] theorem keyIs_str (s : ByteArray) : keyIs false (.str s) = true := (rfl)
theorem keyFits_int (kk : IntKind) (k : AV) : keyFits (.int kk) k = keyIs true k := by cases k <;> rfl
theorem keyFits_str (k : AV) : keyFits .string k = keyIs false k := by cases k <;> rfl
@[go_sem] theorem aLookup_eq (t : TypeId) (m k : AV) (ok : Bool) (K : AV → Prop) : aLookup P t m k ok h K = aLk (tmk P t) m k ok h K := by
  unfold aLookup tmk
  cases P.underlying t with
  | none => rfl
  | some d => cases d with
    | map kt et =>
      simp only
      cases P.underlying kt with
      | none => rfl
      | some kd => cases tzero P et with
        | none => cases kd <;> rfl
        | some z => cases kd <;> simp only [aLk, keyFits_int, keyFits_str] <;> simp [keyFits]
    | _ => rfl
@[go_sem] theorem aLk_some (b : Bool) (z m k : AV) (ok : Bool) (K : AV → Prop) : aLk (some (b, z)) m k ok h K = (keyIs b k = true ∧ aLkM z m k ok h K) := (rfl)
@[go_sem] theorem aLkM_nil (z k : AV) (ok : Bool) (K : AV → Prop) : aLkM z (.map none) k ok h K = K (if ok then .tuple [z, .bool false] else z) := (rfl)
@[go_sem] theorem aLkM_map (z k : AV) (i : Nat) (ok : Bool) (K : AV → Prop) : aLkM z (.map (some i)) k ok h K = aLkO ok z k (h[i]?) K := (rfl)
@[go_sem] theorem aLkO_map (ok : Bool) (z k : AV) (ents : List (Nat × AV × AV)) (c : Nat) (K : AV → Prop) : aLkO ok z k (some (.map ents c)) K = aLkF ok z (aFind k ents) ents K := (rfl)
def aLkE (ok : Bool) (e : Option (Nat × AV × AV)) (K : AV → Prop) : Prop := match e with
  | some e => K (if ok then .tuple [e.2.2, .bool true] else e.2.2)
  | none => False
@[go_sem] theorem aLkF_none (ok : Bool) (z : AV) (ents : List (Nat × AV × AV)) (K : AV → Prop) : aLkF ok z (some none) ents K = K (if ok then .tuple [z, .bool false] else z) := (rfl)
@[go_sem] theorem aLkF_some (ok : Bool) (z : AV) (j : Nat) (ents : List (Nat × AV × AV)) (K : AV → Prop) : aLkF ok z (some (some j)) ents K = aLkE ok (ents[j]?) K := by
  cases h : ents[j]? <;> simp [aLkF, aLkE, h]
@[go_sem] theorem aLkE_some (ok : Bool) (e : Nat × AV × AV) (K : AV → Prop) : aLkE ok (some e) K = K (if ok then .tuple [e.2.2, .bool true] else e.2.2) := (rfl)
def tmkey (P : Program) (t : TypeId) : Option Bool := match P.underlying t with
  | some (.map kt _) => (match P.underlying kt with
    | some (.int _) => some true
    | some .string => some false
    | _ => none)
  | _ => none
def aMuR (r : Option AObj) (h : AH) (i : Nat) (K : AH → Prop) : Prop := match r with
  | some ob => K (h.set i ob)
  | none => False
def aMuO (k x : AV) (ob : Option AObj) (h : AH) (i : Nat) (K : AH → Prop) : Prop := match ob with
  | some (.map ents clk) => aMuR ((aFind k ents).bind (putEnt ents clk k x)) h i K
  | _ => False
def aMu (d : Option Bool) (m k x : AV) (h : AH) (K : AH → Prop) : Prop := match d, m with
  | some b, .map (some i) => keyIs b k = true ∧ aMuO k x (h[i]?) h i K
  | _, _ => False
@[go_sem] theorem aLk2_none (t : TypeId) (m k : AV) (ok : Bool) (K : AV → Prop) : aLk2 none P t m k ok h K = aLookup P t m k ok h K := (rfl)
@[go_sem] theorem aLk2_some (l : List (Nat × CK)) (z : AV) (t : TypeId) (m k : AV) (ok : Bool) (K : AV → Prop) : aLk2 (some (l, z)) P t m k ok h K = aLkMS l z m k ok h K := (rfl)
@[go_sem] theorem aLkMS_map (l : List (Nat × CK)) (z : AV) (xs : List AV) (i : Nat) (ok : Bool) (K : AV → Prop) : aLkMS l z (.map (some i)) (.agg xs) ok h K = (scals xs l = true ∧ aLkOS l ok z (.agg xs) (h[i]?) K) := (rfl)
@[go_sem] theorem aLkOS_map (l : List (Nat × CK)) (ok : Bool) (z k : AV) (ents : List (Nat × AV × AV)) (c : Nat) (K : AV → Prop) : aLkOS l ok z k (some (.map ents c)) K = aLkF ok z (aFindS l k ents) ents K := (rfl)
@[go_sem] theorem aUp2_none (t : TypeId) (m k x : AV) (K : AH → Prop) : aUp2 none P t m k x h K = aMapUpdate P t m k x h K := (rfl)
def aUpO (l : List (Nat × CK)) (k x : AV) (ob : Option AObj) (h : AH) (i : Nat) (K : AH → Prop) : Prop := match ob with
  | some (.map ents clk) => aMuR ((aFindS l k ents).bind (putEnt ents clk k x)) h i K
  | _ => False
@[go_sem] theorem aUp2_some (l : List (Nat × CK)) (z : AV) (t : TypeId) (i : Nat) (xs : List AV) (x : AV) (K : AH → Prop) : aUp2 (some (l, z)) P t (.map (some i)) (.agg xs) x h K = (scals xs l = true ∧ aUpO l (.agg xs) x (h[i]?) h i K) := by
  show (scals xs l = true ∧ _) = _
  congr 1
@[go_sem] theorem aUpO_map (l : List (Nat × CK)) (k x : AV) (ents : List (Nat × AV × AV)) (c i : Nat) (K : AH → Prop) : aUpO l k x (some (.map ents c)) h i K = aMuR ((aFindS l k ents).bind (putEnt ents c k x)) h i K := (rfl)
@[go_sem] theorem scals_cons (xs : List AV) (o : Nat) (k : CK) (r : List (Nat × CK)) : scals xs ((o, k) :: r) = ((match xs[o]? with
    | some a => scalAt k a
    | none => false) && scals xs r) := (rfl)
@[go_sem] theorem scals_nil (xs : List AV) : scals xs [] = true := (rfl)
@[go_sem] theorem scalAt_int (k : IntKind) (n : Int) : scalAt .int (.int k n) = true := (rfl)
@[go_sem] theorem aMapUpdate_eq (t : TypeId) (m k x : AV) (K : AH → Prop) : aMapUpdate P t m k x h K = aMu (tmkey P t) m k x h K := by
  unfold aMapUpdate tmkey
  cases P.underlying t with
  | none => rfl
  | some d => cases d with
    | map kt et =>
      simp only
      cases P.underlying kt with
      | none => rfl
      | some kd =>
        have key : ∀ i, (match h[i]? with
          | some (.map ents clk) => (match (aFind k ents).bind (putEnt ents clk k x) with
            | some ob => K (h.set i ob)
            | none => False)
          | _ => False) = aMuO k x (h[i]?) h i K := fun i => by
          unfold aMuO aMuR
          split <;> rfl
        cases m with
        | map r => cases r with
          | none => cases kd <;> simp [aMu]
          | some i => cases kd <;> simp only [aMu, keyFits_int, keyFits_str] <;> first | exact congrArg (And _) (key i) | simp [keyFits]
        | _ => cases kd <;> simp [aMu]
    | _ => rfl
@[go_sem] theorem aMu_map (b : Bool) (i : Nat) (k x : AV) (K : AH → Prop) : aMu (some b) (.map (some i)) k x h K = (keyIs b k = true ∧ aMuO k x (h[i]?) h i K) := (rfl)
@[go_sem] theorem aMuO_map (k x : AV) (ents : List (Nat × AV × AV)) (c i : Nat) (K : AH → Prop) : aMuO k x (some (.map ents c)) h i K = aMuR ((aFind k ents).bind (putEnt ents c k x)) h i K := (rfl)
@[go_sem] theorem aMuR_some (ob : AObj) (i : Nat) (K : AH → Prop) : aMuR (some ob) h i K = K (h.set i ob) := (rfl)

/-- append, where both types are known. -/
def aAp (d : Option (Nat × Nat)) (s x : AV) (h : AH) (K : AV → AH → Prop) : Prop := match d, s with
  | some (n, by_), .sl rows own => ∃ xs, SrcIs x h xs ∧ RowsOK n rows ∧ RowsOK n xs ∧ rows.length + xs.length ≤ 9223372036854775807 ∧ (rows.length + xs.length) * by_ ≤ 140737488355328 ∧
        (match own with
         | .free => xs = [] ∧ K s h
         | .full => K (.sl (rows ++ xs) (.arena h.length)) (h ++ [.arena (rows.length + xs.length)])
         | .arena i => (match h[i]? with
           | some (.arena m) => m = rows.length ∧ K (.sl (rows ++ xs) (.arena i)) (h.set i (.arena (rows.length + xs.length)))
           | _ => False))
  | _, _ => False
theorem aAppend_eq {t u : TypeId} (hu : tsrc P u = true) (s x : AV) (K : AV → AH → Prop) : aAppend P t u s x h K = aAp (tap P t) s x h K := by
  unfold tsrc at hu
  unfold aAppend tap
  cases hd : P.underlying u with
  | none => rw [hd] at hu; cases hu
  | some du =>
    rw [hd] at hu
    cases ht : P.underlying t with
    | none => cases du <;> first | rfl | cases hu
    | some d =>
      have key : (match some d, some du with
        | some _, some (.int _) => False
        | some (.slice e), some _ => (match tsz P e, tbytes P e, tzero P e, s with
          | some n, some by_, some z, .sl rows own => n ≠ 0 ∧ z.cells.size = n ∧ ∃ xs, SrcIs x h xs ∧ RowsOK n rows ∧ RowsOK n xs ∧ rows.length + xs.length ≤ 9223372036854775807 ∧ (rows.length + xs.length) * by_ ≤ 140737488355328 ∧
              (match own with
               | .free => xs = [] ∧ K s h
               | .full => K (.sl (rows ++ xs) (.arena h.length)) (h ++ [.arena (rows.length + xs.length)])
               | .arena i => (match h[i]? with
                 | some (.arena m) => m = rows.length ∧ K (.sl (rows ++ xs) (.arena i)) (h.set i (.arena (rows.length + xs.length)))
                 | _ => False))
          | _, _, _, _ => False)
        | _, _ => False) = aAp (match some d with
          | some (.slice e) => (match tsz P e, tbytes P e, tzero P e with
            | some n, some by_, some z => if n ≠ 0 ∧ z.cells.size = n then some (n, by_) else none
            | _, _, _ => none)
          | _ => none) s x h K := by
        cases d with
        | slice e =>
          cases du <;> first | exact absurd hu Bool.false_ne_true | skip
          all_goals
            simp only
            cases tsz P e with
            | none => rfl
            | some n => cases tbytes P e with
              | none => rfl
              | some b => cases tzero P e with
                | none => rfl
                | some z =>
                  simp only
                  by_cases hc : n ≠ 0 ∧ z.cells.size = n
                  · rw [if_pos hc]; cases s <;> first | rfl | (simp only [aAp]; exact propext ⟨fun h => h.2.2, fun h => ⟨hc.1, hc.2, h⟩⟩)
                  · rw [if_neg hc]; cases s <;> first | rfl | (simp only [aAp]; exact propext ⟨fun h => hc ⟨h.1, h.2.1⟩, fun h => h.elim⟩)
        | _ => cases du <;> first | rfl | exact absurd hu Bool.false_ne_true
      exact key

/-! ### Arrays of one's own -/
def aMkT (d : Option (Nat × Nat × List AV × TypeId)) (l c : AV) (h : AH) (K : AV → AH → Prop) : Prop := match d, l, c with
  | some (n, by_, z, e), .int _ l, .int _ c => 0 ≤ l ∧ l ≤ c ∧ c ≤ 9223372036854775807 ∧ c * by_ ≤ 140737488355328 ∧ K (.ms h.length 0 l.toNat c.toNat n) (h ++ [.row (zrow c.toNat z) e])
  | _, _, _ => False
theorem aMakeSlice_eq {t : TypeId} (ht : (tms P t).isSome = true) (l c : AV) (K : AV → AH → Prop) : aMakeSlice P t l c h K = aMkT (tms P t) l c h K := by
  unfold tms at ht
  unfold aMakeSlice tms
  split at ht
  · rename_i e hd
    rw [hd]
    split at ht
    · rename_i n by_ z h1 h2 h3
      split at ht
      · rename_i hc
        simp only [h1, h2, h3]
        rw [if_pos hc]
        cases l <;> first | rfl | skip
        cases c <;> first | rfl | skip
        simp only [aMkT]
        exact propext ⟨fun h => h.2.2, fun h => ⟨hc.1, hc.2.1, h⟩⟩
      · cases ht
    · cases ht
  · cases ht
@[go_sem] theorem aMkT_some (n by_ : Nat) (z : List AV) (e : TypeId) (k k' : IntKind) (l c : Int) (K : AV → AH → Prop) :
    aMkT (some (n, by_, z, e)) (.int k l) (.int k' c) h K = (0 ≤ l ∧ l ≤ c ∧ c ≤ 9223372036854775807 ∧ c * by_ ≤ 140737488355328 ∧ K (.ms h.length 0 l.toNat c.toNat n) (h ++ [.row (zrow c.toNat z) e])) := (rfl)
def aClR (n : Nat) (z : List AV) (i off len sz : Nat) (o : Option AObj) (h : AH) (K : AV → AH → Prop) : Prop := match o with
  | some (.row cs T) => n = sz ∧ off + len * n ≤ cs.length ∧ K (.tuple []) (h.set i (.row (splice cs off (zrow len z)) T))
  | _ => False
def aClT (d : Option (Nat × Nat × List AV × TypeId)) (x : AV) (h : AH) (K : AV → AH → Prop) : Prop := match d, x with
  | some _, .sl [] _ => K (.tuple []) h
  | some (n, _, z, _), .ms i off len _ sz => aClR n z i off len sz h[i]? h K
  | _, _ => False
theorem aClear_eq {t : TypeId} (ht : (tms P t).isSome = true) (x : AV) (K : AV → AH → Prop) : aClear P t x h K = aClT (tms P t) x h K := by
  have ht0 := ht
  unfold tms at ht
  split at ht
  · rename_i e hd
    split at ht
    · rename_i n by_ z h1 h2 h3
      split at ht
      · rename_i hc
        have e1 : tms P t = some (n, by_, z.cells.toList.map ofV1, e) := by
          unfold tms
          rw [hd]
          simp only [h1, h2, h3]
          rw [if_pos hc]
        rw [e1]
        unfold aClear
        rw [hd]
        cases x with
        | sl rows o => cases rows <;> rfl
        | ms i off len cap sz =>
          simp only [aClT, aClR, h1, h3]
          cases h[i]? with
          | none => rfl
          | some ob =>
            cases ob <;> first | rfl | skip
            simp only
            exact propext ⟨fun h => ⟨h.1, h.2.2.2.2.1, h.2.2.2.2.2⟩, fun h => ⟨h.1, hc.1, hc.2.1, List.all_eq_true.1 hc.2.2, h.2.1, h.2.2⟩⟩
        | _ => rfl
      · cases ht
    · cases ht
  · cases ht
@[go_sem] theorem aClT_sl (d : Nat × Nat × List AV × TypeId) (o : Own) (K : AV → AH → Prop) : aClT (some d) (.sl [] o) h K = K (.tuple []) h := (rfl)
@[go_sem] theorem aClT_ms (n by_ : Nat) (z : List AV) (e : TypeId) (i off len cap sz : Nat) (K : AV → AH → Prop) : aClT (some (n, by_, z, e)) (.ms i off len cap sz) h K = aClR n z i off len sz h[i]? h K := (rfl)
@[go_sem] theorem aClR_some (n : Nat) (z : List AV) (i off len sz : Nat) (cs : List AV) (T : TypeId) (K : AV → AH → Prop) :
    aClR n z i off len sz (some (.row cs T)) h K = (n = sz ∧ off + len * n ≤ cs.length ∧ K (.tuple []) (h.set i (.row (splice cs off (zrow len z)) T))) := (rfl)
def aBsM (d : Option (Nat × Nat × List AV × TypeId)) (len : Nat) (ps : List (Nat × AV)) (h : AH) (K : AV → AH → Prop) : Prop := match d with
  | some (n, _, _, e) => len * n ≤ 16777216 ∧ ps.map (·.1) = List.range len ∧ (∀ p ∈ ps, p.2.cells.length = n ∧ (p.2.one = true ∨ ∃ cs, p.2 = .agg cs)) ∧ K (.ms h.length 0 len len n) (h ++ [.row (flat (ps.map (·.2))) e])
  | none => False
theorem aBuildSliceM_eq {t : TypeId} (ht : (tms P t).isSome = true) (len : Nat) (ps : List (Nat × AV)) (K : AV → AH → Prop) : aBuildSliceM P t len ps h K = aBsM (tms P t) len ps h K := by
  unfold tms at ht
  unfold aBuildSliceM tms
  split at ht
  · rename_i e hd
    rw [hd]
    split at ht
    · rename_i n by_ z h1 h2 h3
      split at ht
      · rename_i hc
        simp only [h1, h2, h3]
        rw [if_pos hc]
        exact propext ⟨fun h => h.2.2, fun h => ⟨hc.1, hc.2.1, h⟩⟩
      · cases ht
    · cases ht
  · cases ht
def aApM (d : Option (Nat × Nat × List AV × TypeId)) (s x : AV) (h : AH) (K : AV → AH → Prop) : Prop := match d with
  | some (n, by_, _, e) => ∃ xs, SrcIs x h xs ∧ RowsOK n xs ∧
        (match s with
         | .sl [] .full => xs.length ≤ 9223372036854775807 ∧ xs.length * by_ ≤ 140737488355328 ∧ (xs = [] → K s h) ∧ (xs ≠ [] → ∀ c, xs.length ≤ c → K (.ms h.length 0 xs.length c n) (h ++ [.row (flat xs ++ List.replicate ((c - xs.length) * n) .top) e]))
         | .ms i off len cap sz => sz = n ∧ len + xs.length ≤ 9223372036854775807 ∧ (len + xs.length) * by_ ≤ 140737488355328 ∧ len ≤ cap ∧ (match h[i]? with
           | some (.row cs T) => off + cap * n ≤ cs.length ∧ (len + xs.length ≤ cap → K (.ms i off (len + xs.length) cap n) (h.set i (.row (splice cs (off + len * n) (flat xs)) T))) ∧
              (cap < len + xs.length → ∀ c, len + xs.length ≤ c → K (.ms h.length 0 (len + xs.length) c n) (h ++ [.row ((cs.drop off).take (len * n) ++ flat xs ++ List.replicate ((c - (len + xs.length)) * n) .top) e]))
           | _ => False)
         | _ => False)
  | none => False
theorem aAppendM_eq {t u : TypeId} (hu : tsrc P u = true) (ht : (tms P t).isSome = true) (s x : AV) (K : AV → AH → Prop) : aAppendM P t u s x h K = aApM (tms P t) s x h K := by
  unfold tsrc at hu
  unfold tms at ht
  unfold aAppendM tms
  split at ht
  · rename_i e hd
    rw [hd]
    split at ht
    · rename_i n by_ z h1 h2 h3
      split at ht
      · rename_i hc
        split at hu
        · cases hu
        · rename_i d hk0 hud
          rw [hud]
          simp only [h1, h2, h3]
          rw [if_pos hc]
          simp only [aApM]
          cases d <;> first
            | exact propext ⟨fun h => h.2.2, fun h => ⟨hc.1, hc.2.1, h⟩⟩
            | (exact absurd rfl (hk0 _))
            | (exact (hk0 _ rfl).elim)
        · cases hu
      · cases ht
    · cases ht
  · cases ht
/-! ### Ranges over maps, bytes of texts, nil slices -/
def aRgO (o : Option AObj) (m : Nat) (h : AH) (K : AV → AH → Prop) : Prop := match o with
  | some (.map _ clk) => K (.ptr (some (h.length, 0))) (h ++ [.iter (some m) clk []])
  | _ => False
def aRgT (d : Option LenOf) (x : AV) (h : AH) (K : AV → AH → Prop) : Prop := match d, x with
  | some .map, .map none => K (.ptr (some (h.length, 0))) (h ++ [.iter none 0 []])
  | some .map, .map (some m) => aRgO h[m]? m h K
  | _, _ => False
@[go_sem] theorem aRange_eq (t : TypeId) (x : AV) (K : AV → AH → Prop) : aRange P t x h K = aRgT (tlen P t) x h K := by
  unfold aRange tlen
  cases P.underlying t with
  | none => rfl
  | some d => cases d <;> cases x <;> first | rfl | (rename_i p; cases p <;> rfl)
@[go_sem] theorem aRgT_none (K : AV → AH → Prop) : aRgT (some .map) (.map none) h K = K (.ptr (some (h.length, 0))) (h ++ [.iter none 0 []]) := (rfl)
@[go_sem] theorem aRgT_some (m : Nat) (K : AV → AH → Prop) : aRgT (some .map) (.map (some m)) h K = aRgO h[m]? m h K := (rfl)
@[go_sem] theorem aRgO_some (ents : List (Nat × AV × AV)) (clk m : Nat) (K : AV → AH → Prop) : aRgO (some (.map ents clk)) m h K = K (.ptr (some (h.length, 0))) (h ++ [.iter (some m) clk []]) := (rfl)
def aNxM (o : Option AObj) (m clk : Nat) (seen : List Nat) (i : Nat) (h : AH) (K : AV → AH → Prop) : Prop := match o with
  | some (.map ents clk') => clk' = clk ∧ (∀ e ∈ ents, e.1 < clk) ∧ ((∀ e ∈ ents, e.1 ∈ seen) → K (.tuple [.bool false]) h) ∧ ∀ e ∈ ents, e.1 ∉ seen → K (.tuple [.bool true, e.2.1, e.2.2]) (h.set i (.iter (some m) clk (seen ++ [e.1])))
  | _ => False
def aNxI (o : Option AObj) (i : Nat) (h : AH) (K : AV → AH → Prop) : Prop := match o with
  | some (.iter none _ _) => K (.tuple [.bool false]) h
  | some (.iter (some m) clk seen) => aNxM h[m]? m clk seen i h K
  | _ => False
@[go_sem] theorem aNxt_ptr (i : Nat) (K : AV → AH → Prop) : aNxt (.ptr (some (i, 0))) h K = aNxI h[i]? i h K := (rfl)
@[go_sem] theorem aNxI_none (c : Nat) (q : List Nat) (i : Nat) (K : AV → AH → Prop) : aNxI (some (.iter none c q)) i h K = K (.tuple [.bool false]) h := (rfl)
@[go_sem] theorem aNxI_some (m clk : Nat) (seen : List Nat) (i : Nat) (K : AV → AH → Prop) : aNxI (some (.iter (some m) clk seen)) i h K = aNxM h[m]? m clk seen i h K := (rfl)
def aEnF (o : Option (Nat × AV × AV)) (K : AV → Prop) : Prop := match o with
  | some e => K (.tuple [e.2.1, e.2.2])
  | none => False
def aEnS (o : Option Nat) (ents : List (Nat × AV × AV)) (K : AV → Prop) : Prop := match o with
  | some s => aEnF (ents.find? (·.1 == s)) K
  | none => False
def aEnM (o : Option AObj) (clk : Nat) (seen : List Nat) (K : AV → Prop) : Prop := match o with
  | some (.map ents clk') => clk' = clk ∧ aEnS seen.getLast? ents K
  | _ => False
def aEnI (o : Option AObj) (h : AH) (K : AV → Prop) : Prop := match o with
  | some (.iter (some m) clk seen) => aEnM h[m]? clk seen K
  | _ => False
@[go_sem] theorem aEntry_ptr (i : Nat) (K : AV → Prop) : aEntry (.ptr (some (i, 0))) h K = aEnI h[i]? h K := by
  unfold aEntry aEnI
  simp only
  cases h[i]? with
  | none => rfl
  | some o => cases o <;> first | rfl | skip
              rename_i m clk seen
              cases m <;> first | rfl | skip
              rename_i m
              simp only [aEnM]
              cases h[m]? with
              | none => rfl
              | some o => cases o <;> first | rfl | skip
                          simp only [aEnS]
                          cases seen.getLast? with
                          | none => simp
                          | some s =>
                            simp only [aEnF]
                            rfl
@[go_sem] theorem aEnI_some (m clk : Nat) (seen : List Nat) (K : AV → Prop) : aEnI (some (.iter (some m) clk seen)) h K = aEnM h[m]? clk seen K := (rfl)
@[go_sem] theorem aEnM_some (ents : List (Nat × AV × AV)) (clk clk' : Nat) (seen : List Nat) (K : AV → Prop) : aEnM (some (.map ents clk')) clk seen K = (clk' = clk ∧ aEnS seen.getLast? ents K) := (rfl)
@[go_sem] theorem aEnS_some (s : Nat) (ents : List (Nat × AV × AV)) (K : AV → Prop) : aEnS (some s) ents K = aEnF (ents.find? (·.1 == s)) K := (rfl)
@[go_sem] theorem aEnF_some (e : Nat × AV × AV) (K : AV → Prop) : aEnF (some e) K = K (.tuple [e.2.1, e.2.2]) := (rfl)
@[go_sem] theorem last_app (l : List Nat) (x : Nat) : (l ++ [x]).getLast? = some x := by simp
def aIxT (d : Option LenOf) (x i : AV) (K : AV → Prop) : Prop := match d, x, i with
  | some .str, .str s, .int _ n => 0 ≤ n ∧ ∃ b, s[n.toNat]? = some b ∧ K (.int .u8 b.toNat)
  | _, _, _ => False
@[go_sem] theorem aIndex_eq (t : TypeId) (x : ByteArray) (i : AV) (K : AV → Prop) : aIndex P t (.str x) i K = aIxT (tlen P t) (.str x) i K := by
  unfold aIndex tlen
  cases P.underlying t with
  | none => rfl
  | some d => cases d <;> cases i <;> rfl
theorem aIndex_arr {t e : TypeId} {len s : Nat} (ht : P.underlying t = some (.array len e)) (hs : tsz P e = some s) (cs : List AV) (k : IntKind) (n : Int) (K : AV → Prop) : aIndex P t (.agg cs) (.int k n) K = (0 ≤ n ∧ n < len ∧ aLd P e (cs.drop (n.toNat * s)) K) := by
  unfold aIndex
  rw [ht]
  simp only [hs]
@[go_sem] theorem aIxT_str (s : ByteArray) (k : IntKind) (n : Int) (K : AV → Prop) : aIxT (some .str) (.str s) (.int k n) K = (0 ≤ n ∧ ∃ b, s[n.toNat]? = some b ∧ K (.int .u8 b.toNat)) := (rfl)
def aNlT (d : Option LenOf) (op : BinOp) (x : AV) (K : AV → Prop) : Prop := match d, op, x with
  | some .sl, .eql, .sl rows _ => (rows = [] → K (.bool true)) ∧ K (.bool false)
  | some .sl, .neq, .sl rows _ => (rows = [] → K (.bool false)) ∧ K (.bool true)
  | some .sl, .eql, .ms .. => K (.bool false)
  | some .sl, .neq, .ms .. => K (.bool true)
  | _, _, _ => False
@[go_sem] theorem aNilC_eq (t : TypeId) (op : BinOp) (x : AV) (K : AV → Prop) : aNilC P t op x K = aNlT (tlen P t) op x K := by
  unfold aNilC tlen
  cases P.underlying t with
  | none => rfl
  | some d => cases d <;> cases op <;> first | rfl | (cases x <;> rfl)
@[go_sem] theorem aNlT_eqm (i o l c s : Nat) (K : AV → Prop) : aNlT (some .sl) .eql (.ms i o l c s) K = K (.bool false) := (rfl)
@[go_sem] theorem aNlT_nem (i o l c s : Nat) (K : AV → Prop) : aNlT (some .sl) .neq (.ms i o l c s) K = K (.bool true) := (rfl)
end
attribute [go_sem] bne_self_eq_false beq_self_eq_true true_and and_true decide_true decide_false wrap_i64
end Go.Abs
