/- Texts joined: PolA, PolB, PolC, PolD. No conditions. -/
import Derived.Test.YtjdhgaflenhljaaGreatDoorMrF
import Derived.Test.YtjdhgaflenhljaaGreatDoorMrG
/- Policies, their expressions, holders: plain, and as abstract values. No conditions. -/
set_option linter.unusedSimpArgs false
set_option linter.unusedVariables false
namespace Go.Proofs.YtjdhgaflenhljaaGreatDoor
open Go Go.Proofs Go.Abs

/-- An expression: kind, number, office's number, name, parts. -/
inductive Ex where
  | mk (k n no : Int) (name : List UInt8) (l : List Ex)
def Ex.k : Ex → Int | .mk k _ _ _ _ => k
def Ex.n : Ex → Int | .mk _ n _ _ _ => n
def Ex.no : Ex → Int | .mk _ _ no _ _ => no
def Ex.name : Ex → List UInt8 | .mk _ _ _ s _ => s
def Ex.l : Ex → List Ex | .mk _ _ _ _ l => l
mutual
def encX : Ex → AV
  | .mk k n no s l => .agg [.int .i64 k, .int .i64 n, .int .i64 no, .str ⟨⟨s⟩⟩, .sl (encXs l) .free]
def encXs : List Ex → List AV
  | [] => []
  | x :: r => encX x :: encXs r
end
theorem encXs_map (l : List Ex) : encXs l = l.map encX := by
  induction l with
  | nil => rfl
  | cons x r ih => simp [encXs, ih]
theorem encX_mk (k n no : Int) (s : List UInt8) (l : List Ex) : encX (.mk k n no s l) = .agg [.int .i64 k, .int .i64 n, .int .i64 no, .str ⟨⟨s⟩⟩, .sl (l.map encX) .free] := by simp [encX, encXs_map]
theorem encX_len (x : Ex) : (encX x).cells.length = 5 := by cases x; simp [encX, AV.cells]
theorem encX_take (x : Ex) : AV.agg (List.take 5 (encX x).cells) = encX x := by cases x; simp [encX, AV.cells]
theorem encX_good (x : Ex) : (encX x).good = true := by cases x; simp [encX, AV.good, AV.one]
theorem encX_isAgg (x : Ex) : (encX x).isAgg = true := by cases x; rfl
attribute [go_sem] encX_isAgg encX_len encX_take encX_good
theorem memX_sz {x : Ex} {k n no : Int} {s : List UInt8} {l : List Ex} (h : x ∈ l) {m : Nat} (hk : SizeOf.sizeOf (Ex.mk k n no s l) < m + 1) : SizeOf.sizeOf x < m := by
  have := List.sizeOf_lt_of_mem h
  simp only [Ex.mk.sizeOf_spec] at hk
  omega
structure Rl where
  kind : List UInt8
  kno : Int
  think : Int
  x : Ex
def encRl (r : Rl) : AV := .agg ([.str ⟨⟨r.kind⟩⟩, .int .i64 r.kno, .int .i64 r.think] ++ (encX r.x).cells)
structure Pol where
  name : List UInt8
  kinds : List (List UInt8)
  offices : List (List UInt8)
  rules : List Rl
  change : Ex
  mode : Int
def encT (l : List (List UInt8)) : List AV := l.map fun s => .str ⟨⟨s⟩⟩
def polC (p : Pol) : List AV := [.str ⟨⟨p.name⟩⟩, .sl (encT p.kinds) .free, .sl (encT p.offices) .free, .sl (p.rules.map encRl) .free] ++ (encX p.change).cells ++ [.int .i64 p.mode]
def encPol (p : Pol) : AV := .agg (polC p)
structure Hd where
  person : Int
  weight : Int
def encHd (x : Hd) : AV := .agg [.int .i64 x.person, .int .i64 x.weight]
def encHl (l : List (List Hd)) : List AV := l.map fun r => .sl (r.map encHd) .free
def encI (l : List Int) : List AV := l.map fun n => .int .i64 n
theorem encI_len (l : List Int) : (encI l).length = l.length := by simp [encI]
theorem encT_len (l : List (List UInt8)) : (encT l).length = l.length := by simp [encT]
/-! ### Facts on these values -/
theorem loose_X : ∀ x : Ex, loose (encX x) = encX x
  | .mk k n no s l => by
    have : looseL (l.map encX) = l.map encX := by
      rw [looseL_map, List.map_map]
      exact List.map_congr_left fun x hx => loose_X x
    simp [encX_mk, loose, looseL, this]
theorem loose_Xs (l : List Ex) : looseL (l.map encX) = l.map encX := looseL_maps _ loose_X l
theorem rb_X (k : Nat) : ∀ x : Ex, RB k (encX x)
  | .mk _ n no s l => by
    rw [encX_mk]
    refine .agg' (RBs.cons (.int _ _) (RBs.cons (.int _ _) (RBs.cons (.int _ _) (RBs.cons (.str _) (RBs.cons (.sl' fun r hr => ?_) (RBs.nil _))))))
    obtain ⟨x, hx, rfl⟩ := List.mem_map.1 hr
    exact rb_X k x
theorem rb_Xs (k : Nat) (l : List Ex) : RB k (.sl (l.map encX) .free) = True := eq_true (.sl' fun r hr => by
  obtain ⟨x, hx, rfl⟩ := List.mem_map.1 hr
  exact rb_X k x)
theorem rb_X' (k : Nat) (x : Ex) : RB k (encX x) = True := eq_true (rb_X k x)
theorem rowsOK_X (l : List Ex) : RowsOK 5 (l.map encX) := fun r hr => by
  obtain ⟨x, _, rfl⟩ := List.mem_map.1 hr
  refine ⟨encX_len x, fun c hc => ?_⟩
  cases x
  simp only [encX_mk, AV.cells, List.mem_cons, List.not_mem_nil, or_false] at hc
  rcases hc with rfl | rfl | rfl | rfl | rfl <;> rfl
theorem encRl_cells (r : Rl) : (encRl r).cells = [.str ⟨⟨r.kind⟩⟩, .int .i64 r.kno, .int .i64 r.think, .int .i64 r.x.k, .int .i64 r.x.n, .int .i64 r.x.no, .str ⟨⟨r.x.name⟩⟩, .sl (r.x.l.map encX) .free] := by
  obtain ⟨_, _, _, x⟩ := r
  cases x
  simp [encRl, encX_mk, AV.cells, Ex.k, Ex.n, Ex.no, Ex.name, Ex.l]
theorem encRl_agg (r : Rl) : encRl r = .agg [.str ⟨⟨r.kind⟩⟩, .int .i64 r.kno, .int .i64 r.think, .int .i64 r.x.k, .int .i64 r.x.n, .int .i64 r.x.no, .str ⟨⟨r.x.name⟩⟩, .sl (r.x.l.map encX) .free] := by
  rw [← encRl_cells]; rfl
theorem loose_R (r : Rl) : loose (encRl r) = encRl r := by
  simp [encRl_agg, loose, looseL, loose_Xs]
theorem loose_Rs (l : List Rl) : looseL (l.map encRl) = l.map encRl := looseL_maps _ loose_R l
theorem rb_R (k : Nat) (r : Rl) : RB k (encRl r) := by
  rw [encRl_agg]
  exact .agg' (RBs.cons (.str _) (RBs.cons (.int _ _) (RBs.cons (.int _ _) (RBs.cons (.int _ _) (RBs.cons (.int _ _) (RBs.cons (.int _ _) (RBs.cons (.str _) (RBs.cons (rb_Xs k r.x.l ▸ trivial) (RBs.nil _)))))))))
theorem rb_Rs (k : Nat) (l : List Rl) : RB k (.sl (l.map encRl) .free) = True := eq_true (.sl' fun r hr => by
  obtain ⟨x, hx, rfl⟩ := List.mem_map.1 hr
  exact rb_R k x)
theorem rowsOK_R (l : List Rl) : RowsOK 8 (l.map encRl) := fun r hr => by
  obtain ⟨x, _, rfl⟩ := List.mem_map.1 hr
  rw [encRl_cells]
  refine ⟨rfl, fun c hc => ?_⟩
  simp only [List.mem_cons, List.not_mem_nil, or_false] at hc
  rcases hc with rfl | rfl | rfl | rfl | rfl | rfl | rfl | rfl <;> rfl
theorem loose_T (l : List (List UInt8)) : looseL (encT l) = encT l := looseL_maps _ (fun _ => by rw [loose]) l
theorem rb_T (n : Nat) (l : List (List UInt8)) : RB n (.sl (encT l) .free) = True := eq_true (.sl' fun r hr => by
  obtain ⟨i, _, rfl⟩ := List.mem_map.1 hr; exact .str _)
theorem loose_I (l : List Int) : looseL (encI l) = encI l := looseL_maps _ (fun _ => by rw [loose]) l
theorem rb_I (n : Nat) (l : List Int) : RB n (.sl (encI l) .free) = True := eq_true (.sl' fun r hr => by
  obtain ⟨i, _, rfl⟩ := List.mem_map.1 hr; exact .int _ _)
theorem rowsOK_I (l : List Int) : RowsOK 1 (encI l) := RowsOK.int l
theorem loose_H (x : Hd) : loose (encHd x) = encHd x := by simp [encHd, loose, looseL]
theorem loose_Hs (l : List Hd) : looseL (l.map encHd) = l.map encHd := looseL_maps _ loose_H l
theorem rb_H (k : Nat) (x : Hd) : RB k (encHd x) := .agg' (RBs.cons (.int _ _) (RBs.cons (.int _ _) (RBs.nil _)))
theorem rb_Hs (k : Nat) (l : List Hd) : RB k (.sl (l.map encHd) .free) = True := eq_true (.sl' fun r hr => by
  obtain ⟨x, hx, rfl⟩ := List.mem_map.1 hr
  exact rb_H k x)
theorem loose_HH (l : List (List Hd)) : looseL (encHl l) = encHl l := looseL_maps _ (fun r => by simp [loose, loose_Hs]) l
theorem rb_HH (k : Nat) (l : List (List Hd)) : RB k (.sl (encHl l) .free) = True := eq_true (.sl' fun r hr => by
  obtain ⟨x, hx, rfl⟩ := List.mem_map.1 hr
  exact rb_Hs k x ▸ trivial)
attribute [go_sem] loose_X loose_Xs rb_Xs rb_X' loose_R loose_Rs rb_Rs loose_T rb_T loose_I rb_I loose_H loose_Hs rb_Hs loose_HH rb_HH
end Go.Proofs.YtjdhgaflenhljaaGreatDoor

/- The reference's names. No conditions. -/
set_option linter.unusedSimpArgs false
set_option linter.unusedVariables false
namespace Go.Proofs.YtjdhgaflenhljaaGreatDoor
open Go Go.Proofs Go.Abs

def letterB (b : UInt8) : Bool := decide ((97 ≤ b.toNat ∧ b.toNat ≤ 122) ∨ (65 ≤ b.toNat ∧ b.toNat ≤ 90))
def figB (b : UInt8) : Bool := decide (48 ≤ b.toNat ∧ b.toNat ≤ 57)
def partB (b : UInt8) : Bool := letterB b || figB b || decide (b.toNat = 95)
set_option maxRecDepth 100000 in
theorem letter_calls (Γ : Nat → Option (List AV)) (b : UInt8) (h : AH) : ACalls Tryz.prog Γ 100 [.int .u8 b.toNat] h fun v h' => h' = h ∧ v = .bool (letterB b) := by
  refine ACalls.drop ?_
  refine acalls_code (rs := [.tmp 2]) Tryz.func100 rfl rfl rfl rfl Ty.mixed (by kernel_rfl) ?_
  have hb := b.toNat_lt
  have hd : letterB b = decide ((97 ≤ b.toNat ∧ b.toNat ≤ 122) ∨ (65 ≤ b.toNat ∧ b.toNat ≤ 90)) := rfl
  simp (disch := omega) only [go_sem, seval]
  refine aIf.intro (fun h1 => ?_) (fun h1 => ?_) <;> simp (disch := omega) only [go_sem, seval]
  · refine aIf.intro (fun h2 => ?_) (fun h2 => ?_) <;> simp (disch := omega) only [go_sem, seval]
    · rw [hd, decide_eq_true (by omega)]
    · refine aIf.intro (fun h3 => ?_) (fun h3 => ?_) <;> simp (disch := omega) only [go_sem, seval]
      · rw [hd]; congr 1; exact decide_eq_decide.2 (by omega)
      · rw [hd, decide_eq_false (by omega)]
  · refine aIf.intro (fun h3 => ?_) (fun h3 => ?_) <;> simp (disch := omega) only [go_sem, seval]
    · rw [hd]; congr 1; exact decide_eq_decide.2 (by omega)
    · rw [hd, decide_eq_false (by omega)]
set_option maxRecDepth 100000 in
theorem figure_calls (Γ : Nat → Option (List AV)) (b : UInt8) (h : AH) : ACalls Tryz.prog Γ 103 [.int .u8 b.toNat] h fun v h' => h' = h ∧ v = .bool (figB b) := by
  refine ACalls.drop ?_
  refine acalls_code (rs := [.tmp 2]) Tryz.func103 rfl rfl rfl rfl Ty.mixed (by kernel_rfl) ?_
  have hd : figB b = decide (48 ≤ b.toNat ∧ b.toNat ≤ 57) := rfl
  simp (disch := omega) only [go_sem, seval]
  refine aIf.intro (fun h1 => ?_) (fun h1 => ?_) <;> simp (disch := omega) only [go_sem, seval]
  · rw [hd]; congr 1; exact decide_eq_decide.2 (by omega)
  · rw [hd, decide_eq_false (by omega)]
set_option maxRecDepth 100000 in
theorem part_calls (Γ : Nat → Option (List AV)) (b : UInt8) (h : AH) : ACalls Tryz.prog Γ 101 [.int .u8 b.toNat] h fun v h' => h' = h ∧ v = .bool (partB b) := by
  refine ACalls.drop ?_
  refine acalls_code (rs := [.tmp 2]) Tryz.func101 rfl rfl rfl rfl Ty.mixed (by kernel_rfl) ?_
  have hd : partB b = (letterB b || figB b || decide (b.toNat = 95)) := rfl
  simp (disch := omega) only [go_sem, seval]
  refine ACalls.det (letter_calls Γ b _) ?_
  simp (disch := omega) only [go_sem, seval]
  cases h1 : letterB b <;> rw [h1] at hd <;> simp (disch := omega) only [go_sem, seval]
  · refine ACalls.det (figure_calls Γ b _) ?_
    simp (disch := omega) only [go_sem, seval]
    cases h2 : figB b <;> rw [h2] at hd <;> simp (disch := omega) only [go_sem, seval]
    · rw [hd, Bool.false_or, Bool.false_or]; congr 1; exact decide_eq_decide.2 (by omega)
    · rw [hd]; rfl
  · rw [hd]; rfl
/-- A byte of a text. -/
theorem str_get (l : List UInt8) (i : Nat) : (⟨⟨l⟩⟩ : ByteArray)[i]? = l[i]? := by
  by_cases h : i < l.length
  · have h2 : i < (⟨⟨l⟩⟩ : ByteArray).size := h
    rw [List.getElem?_eq_getElem h, getElem?_pos (⟨⟨l⟩⟩ : ByteArray) i h2]; rfl
  · have h2 : ¬ i < (⟨⟨l⟩⟩ : ByteArray).size := h
    rw [List.getElem?_eq_none (by omega), getElem?_neg (⟨⟨l⟩⟩ : ByteArray) i h2]
theorem str_size (l : List UInt8) : (⟨⟨l⟩⟩ : ByteArray).size = l.length := rfl
def nameL : List UInt8 → Bool
  | [] => false
  | b :: r => decide (r.length + 1 ≤ 32) && letterB b && (b :: r).all partB
set_option maxRecDepth 100000 in
theorem rname_calls (Γ : Nat → Option (List AV)) (l : List UInt8) (h : AH) (hl : l.length ≤ 9223372036854775807) : ACalls Tryz.prog Γ 97 [.str ⟨⟨l⟩⟩] h fun v h' => h' = h ∧ v = .bool (nameL l) := by
  refine ACalls.drop ?_
  refine acalls_code (rs := [.tmp 2]) Tryz.func97 rfl rfl rfl rfl Ty.mixed (by kernel_rfl) ?_
  simp (disch := omega) only [go_sem, seval, str_size]
  refine aIf.intro (fun h1 => ?_) (fun h1 => ?_) <;> simp (disch := omega) only [go_sem, seval, str_size]
  · have : l = [] := List.length_eq_zero_iff.1 (by omega)
    subst this; rfl
  refine aIf.intro (fun h2 => ?_) (fun h2 => ?_) <;> simp (disch := omega) only [go_sem, seval, str_size]
  · cases l with
    | nil => simp at h1
    | cons b r => simp only [List.length_cons] at h2; rw [nameL, decide_eq_false (by omega)]; rfl
  cases l with
  | nil => simp at h1
  | cons b r =>
  have hn : nameL (b :: r) = (letterB b && (b :: r).all partB) := by
    simp only [List.length_cons] at h2
    rw [nameL, decide_eq_true (by omega), Bool.true_and]
  rw [hn]
  simp only [List.length_cons] at hl
  refine ⟨b, by rw [str_get]; rfl, ?_⟩
  simp (disch := omega) only [go_sem, seval]
  refine ACalls.det (letter_calls Γ b _) ?_
  simp (disch := omega) only [go_sem, seval]
  cases hb : letterB b <;> simp (disch := omega) only [go_sem, seval, str_size]
  refine awp_loopL (β := Unit) (b :: r) [0, 3] (fun don _ => [(0, .str ⟨⟨b :: r⟩⟩), (3, .int .i64 don.length)]) (fun _ => h) (fun don rest _ => don.all partB = true) () ?_ rfl rfl Ty.mixed (by kernel_rfl) ?_ ?_
  · simp (disch := omega) only [go_sem, seval, List.length_nil]
  · rintro don x rest _ hd hp
    have hlen : r.length + 1 = don.length + 1 + rest.length := by rw [← List.length_cons (a := b), hd]; simp; omega
    have e1 : (b :: r)[don.length]? = some x := by rw [hd]; simp
    simp (disch := omega) only [go_sem, seval, str_size]
    refine aIf.pos (by omega) ?_
    simp (disch := omega) only [go_sem, seval]
    refine ⟨x, by rw [str_get]; exact e1, ?_⟩
    refine ACalls.det (part_calls Γ x _) ?_
    simp (disch := omega) only [go_sem, seval]
    cases hx : partB x <;> simp (disch := omega) only [go_sem, seval]
    · have : (b :: r).all partB = false := by rw [hd, List.all_append, List.all_cons, hx]; simp
      rw [List.all_cons] at this
      rw [this]
    · refine roundL_next () (by rw [List.all_append, hp, List.all_cons, hx]; rfl) ?_ rfl
      simp (disch := omega) only [go_sem, seval, List.length_append]
  · rintro _ hp
    simp (disch := omega) only [go_sem, seval, str_size]
    refine AWP.keep [0] (aCode_ok Ty.mixed _ _ _ _ (by kernel_rfl) ?_)
    simp (disch := omega) only [go_sem, seval]
    rw [List.all_cons] at hp
    rw [hp]
end Go.Proofs.YtjdhgaflenhljaaGreatDoor

/- The reference's Word: texts as lists of bytes. No conditions. -/
set_option linter.unusedSimpArgs false
set_option linter.unusedVariables false
namespace Go.Proofs.YtjdhgaflenhljaaGreatDoor
open Go Go.Proofs Go.Abs

theorem str_list (l : List UInt8) : (⟨⟨l⟩⟩ : ByteArray).toList = l := by
  have key : ∀ (n i : Nat) (r : List UInt8), l.length - i = n → ByteArray.toList.loop ⟨⟨l⟩⟩ i r = r.reverse ++ l.drop i := fun n => by
    induction n with
    | zero =>
      intro i r h
      unfold ByteArray.toList.loop
      rw [if_neg (by show ¬ i < l.length; omega), List.drop_eq_nil_of_le (by omega), List.append_nil]
    | succ n ih =>
      intro i r h
      have hi : i < l.length := by omega
      unfold ByteArray.toList.loop
      rw [if_pos (by show i < l.length; omega), ih _ _ (by omega), List.drop_eq_getElem_cons hi, List.reverse_cons, List.append_assoc]
      have e : (⟨⟨l⟩⟩ : ByteArray).get! i = l[i] := by
        show (⟨l⟩ : Array UInt8)[i]! = l[i]
        simp [hi]
      rw [e]; rfl
  have := key _ 0 [] rfl
  simpa [ByteArray.toList] using this
theorem str_listA (l : List UInt8) : (⟨l.toArray⟩ : ByteArray).toList = l := str_list l
/-- The words of policies. -/
def wordsL : List (List UInt8) := [[112, 111, 108, 105, 99, 121], [109, 111, 100, 101], [111, 108, 100], [110, 101, 119], [98, 111, 116, 104], [101, 105, 116, 104, 101, 114], [111, 102, 102, 105, 99, 101], [107, 105, 110, 100], [114, 117, 108, 101], [116, 104, 105, 110, 107], [99, 104, 97, 110, 103, 101], [115, 111, 109, 101], [119, 101, 105, 103, 104, 116], [111, 102], [117, 112, 116, 111], [101, 108, 115, 101]]
def wordL (l : List UInt8) : Bool := wordsL.any fun w => l == w
set_option maxHeartbeats 2000000 in
set_option maxRecDepth 100000 in
theorem word_calls (Γ : Nat → Option (List AV)) (l : List UInt8) (h : AH) : ACalls Tryz.prog Γ 98 [.str ⟨⟨l⟩⟩] h fun v h' => h' = h ∧ v = .bool (wordL l) := by
  refine ACalls.drop ?_
  have hd : wordL l = wordsL.any fun w => l == w := rfl
  simp only [wordsL, List.any_cons, List.any_nil] at hd
  refine acalls_code (rs := [.tmp 2]) Tryz.func98 rfl rfl rfl rfl Ty.mixed (by kernel_rfl) ?_
  simp (disch := omega) only [go_sem, seval, str_list, str_listA]
  cases h0 : (l == [112, 111, 108, 105, 99, 121]) <;> rw [h0] at hd <;> simp (disch := omega) only [go_sem, seval, str_list, str_listA]
  rotate_left
  · rw [hd]; simp
  cases h1 : (l == [109, 111, 100, 101]) <;> rw [h1] at hd <;> simp (disch := omega) only [go_sem, seval, str_list, str_listA]
  rotate_left
  · rw [hd]; simp
  cases h2 : (l == [111, 108, 100]) <;> rw [h2] at hd <;> simp (disch := omega) only [go_sem, seval, str_list, str_listA]
  rotate_left
  · rw [hd]; simp
  cases h3 : (l == [110, 101, 119]) <;> rw [h3] at hd <;> simp (disch := omega) only [go_sem, seval, str_list, str_listA]
  rotate_left
  · rw [hd]; simp
  cases h4 : (l == [98, 111, 116, 104]) <;> rw [h4] at hd <;> simp (disch := omega) only [go_sem, seval, str_list, str_listA]
  rotate_left
  · rw [hd]; simp
  cases h5 : (l == [101, 105, 116, 104, 101, 114]) <;> rw [h5] at hd <;> simp (disch := omega) only [go_sem, seval, str_list, str_listA]
  rotate_left
  · rw [hd]; simp
  cases h6 : (l == [111, 102, 102, 105, 99, 101]) <;> rw [h6] at hd <;> simp (disch := omega) only [go_sem, seval, str_list, str_listA]
  rotate_left
  · rw [hd]; simp
  cases h7 : (l == [107, 105, 110, 100]) <;> rw [h7] at hd <;> simp (disch := omega) only [go_sem, seval, str_list, str_listA]
  rotate_left
  · rw [hd]; simp
  cases h8 : (l == [114, 117, 108, 101]) <;> rw [h8] at hd <;> simp (disch := omega) only [go_sem, seval, str_list, str_listA]
  rotate_left
  · rw [hd]; simp
  cases h9 : (l == [116, 104, 105, 110, 107]) <;> rw [h9] at hd <;> simp (disch := omega) only [go_sem, seval, str_list, str_listA]
  rotate_left
  · rw [hd]; simp
  cases h10 : (l == [99, 104, 97, 110, 103, 101]) <;> rw [h10] at hd <;> simp (disch := omega) only [go_sem, seval, str_list, str_listA]
  rotate_left
  · rw [hd]; simp
  cases h11 : (l == [115, 111, 109, 101]) <;> rw [h11] at hd <;> simp (disch := omega) only [go_sem, seval, str_list, str_listA]
  rotate_left
  · rw [hd]; simp
  cases h12 : (l == [119, 101, 105, 103, 104, 116]) <;> rw [h12] at hd <;> simp (disch := omega) only [go_sem, seval, str_list, str_listA]
  rotate_left
  · rw [hd]; simp
  cases h13 : (l == [111, 102]) <;> rw [h13] at hd <;> simp (disch := omega) only [go_sem, seval, str_list, str_listA]
  rotate_left
  · rw [hd]; simp
  cases h14 : (l == [117, 112, 116, 111]) <;> rw [h14] at hd <;> simp (disch := omega) only [go_sem, seval, str_list, str_listA]
  rotate_left
  · rw [hd]; simp
  cases h15 : (l == [101, 108, 115, 101]) <;> rw [h15] at hd <;> simp (disch := omega) only [go_sem, seval, str_list, str_listA]
  rotate_left
  · rw [hd]; simp
  rw [hd]; rfl
def freeL (l : List UInt8) : Bool := nameL l && !wordL l
set_option maxRecDepth 100000 in
theorem rfree_calls (Γ : Nat → Option (List AV)) (l : List UInt8) (h : AH) (hl : l.length ≤ 9223372036854775807) : ACalls Tryz.prog Γ 90 [.str ⟨⟨l⟩⟩] h fun v h' => h' = h ∧ v = .bool (freeL l) := by
  refine ACalls.drop ?_
  have hd : freeL l = (nameL l && !wordL l) := rfl
  refine acalls_code (rs := [.tmp 2]) Tryz.func90 rfl rfl rfl rfl Ty.mixed (by kernel_rfl) ?_
  simp (disch := omega) only [go_sem, seval]
  refine ACalls.det (rname_calls Γ l _ hl) ?_
  simp (disch := omega) only [go_sem, seval]
  cases h1 : nameL l <;> rw [h1] at hd <;> simp (disch := omega) only [go_sem, seval]
  · rw [hd]; rfl
  · refine ACalls.det (word_calls Γ l _) ?_
    simp (disch := omega) only [go_sem, seval]
    rw [hd]; rfl
end Go.Proofs.YtjdhgaflenhljaaGreatDoor

/- Policies, plain: parts of expressions, names, forms, Resolve, Check. No conditions. -/
set_option linter.unusedSimpArgs false
set_option linter.unusedVariables false
namespace Go.Proofs.YtjdhgaflenhljaaGreatDoor
open Go Go.Proofs Go.Abs

abbrev Tx := List UInt8
mutual
def sizeX : Ex → Nat
  | .mk _ _ _ _ l => sizeXs l + 1
def sizeXs : List Ex → Nat
  | [] => 0
  | x :: r => sizeX x + sizeXs r
end
mutual
def depthX : Ex → Nat
  | .mk _ _ _ _ l => depthXs l + 1
def depthXs : List Ex → Nat
  | [] => 0
  | x :: r => max (depthX x) (depthXs r)
end
mutual
def partsL : Nat → Ex → List (Ex × Nat)
  | d, .mk k n no s l => (.mk k n no s l, d) :: partsLs (d + 1) l
def partsLs : Nat → List Ex → List (Ex × Nat)
  | _, [] => []
  | d, x :: r => partsL d x ++ partsLs d r
end
mutual
def allX (f : Ex → Bool) : Ex → Bool
  | .mk k n no s l => f (.mk k n no s l) && allXs f l
def allXs (f : Ex → Bool) : List Ex → Bool
  | [] => true
  | x :: r => allX f x && allXs f r
end
mutual
theorem partsL_len : ∀ (d : Nat) (x : Ex), (partsL d x).length = sizeX x
  | d, .mk k n no s l => by rw [partsL, sizeX, List.length_cons, partsLs_len]
theorem partsLs_len : ∀ (d : Nat) (l : List Ex), (partsLs d l).length = sizeXs l
  | d, [] => rfl
  | d, x :: r => by rw [partsLs, sizeXs, List.length_append, partsL_len, partsLs_len]
end
mutual
theorem partsL_all (f : Ex → Bool) : ∀ (d : Nat) (x : Ex), (partsL d x).all (fun y => f y.1) = allX f x
  | d, .mk k n no s l => by rw [partsL, allX, List.all_cons, partsLs_all]
theorem partsLs_all (f : Ex → Bool) : ∀ (d : Nat) (l : List Ex), (partsLs d l).all (fun y => f y.1) = allXs f l
  | d, [] => rfl
  | d, x :: r => by rw [partsLs, allXs, List.all_append, partsL_all, partsLs_all]
end
mutual
theorem partsL_deep (m : Nat) : ∀ (d : Nat) (x : Ex), d ≤ m + 1 → ((∀ y ∈ partsL d x, y.2 ≤ m) ↔ d + depthX x ≤ m + 1)
  | d, .mk k n no s l, h => by
    rw [partsL, depthX, List.forall_mem_cons]
    constructor
    · rintro ⟨h1, h2⟩
      have := (partsLs_deep m (d + 1) l (by omega)).1 h2
      omega
    · intro h1
      exact ⟨by show d ≤ m; omega, (partsLs_deep m (d + 1) l (by omega)).2 (by omega)⟩
theorem partsLs_deep (m : Nat) : ∀ (d : Nat) (l : List Ex), d ≤ m + 1 → ((∀ y ∈ partsLs d l, y.2 ≤ m) ↔ d + depthXs l ≤ m + 1)
  | d, [], h => by simp [partsLs, depthXs]; omega
  | d, x :: r, h => by
    have h1 := partsL_deep m d x h
    have h2 := partsLs_deep m d r h
    rw [partsLs, depthXs]
    constructor
    · intro h3
      have := h1.1 fun y hy => h3 y (List.mem_append_left _ hy)
      have := h2.1 fun y hy => h3 y (List.mem_append_right _ hy)
      omega
    · intro h3 y hy
      rcases List.mem_append.1 hy with hy | hy
      · exact h1.2 (by omega) y hy
      · exact h2.2 (by omega) y hy
end
mutual
theorem depth_size : ∀ x : Ex, depthX x ≤ sizeX x
  | .mk k n no s l => by rw [depthX, sizeX]; have := depths_size l; omega
theorem depths_size : ∀ l : List Ex, depthXs l ≤ sizeXs l
  | [] => by simp [depthXs]
  | x :: r => by rw [depthXs, sizeXs]; have := depth_size x; have := depths_size r; omega
end
theorem size_pos (x : Ex) : 1 ≤ sizeX x := by cases x; simp [sizeX]
theorem size_mem {x : Ex} : ∀ {l : List Ex}, x ∈ l → sizeX x ≤ sizeXs l
  | y :: r, h => by
    rw [sizeXs]
    rcases List.mem_cons.1 h with rfl | h
    · omega
    · have := size_mem h; omega
theorem sizes_len : ∀ l : List Ex, l.length ≤ sizeXs l
  | [] => by simp
  | x :: r => by rw [sizeXs, List.length_cons]; have := sizes_len r; have := size_pos x; omega
theorem sizeXs_app (a b : List Ex) : sizeXs (a ++ b) = sizeXs a + sizeXs b := by
  induction a with
  | nil => simp [sizeXs]
  | cons x r ih => simp only [List.cons_append, sizeXs, ih]; omega
theorem depthXs_app (a b : List Ex) : depthXs (a ++ b) = max (depthXs a) (depthXs b) := by
  induction a with
  | nil => simp [depthXs]
  | cons x r ih => simp only [List.cons_append, depthXs, ih]; omega
theorem allXs_all (f : Ex → Bool) (l : List Ex) : allXs f l = l.all (allX f) := by
  induction l with
  | nil => rfl
  | cons x r ih => rw [allXs, List.all_cons, ih]
mutual
theorem allX_and (f g : Ex → Bool) : ∀ x : Ex, allX (fun y => f y && g y) x = (allX f x && allX g x)
  | .mk k n no s l => by rw [allX, allX, allX, allXs_and]; cases f (.mk k n no s l) <;> cases g (.mk k n no s l) <;> cases allXs f l <;> cases allXs g l <;> rfl
theorem allXs_and (f g : Ex → Bool) : ∀ l : List Ex, allXs (fun y => f y && g y) l = (allXs f l && allXs g l)
  | [] => rfl
  | x :: r => by rw [allXs, allXs, allXs, allX_and, allXs_and]; cases allX f x <;> cases allX g x <;> cases allXs f r <;> cases allXs g r <;> rfl
end
/-- The place of a text. -/
def idxT : List Tx → Tx → Int
  | [], _ => -1
  | x :: r, s => if x == s then 0 else if idxT r s < 0 then -1 else idxT r s + 1
theorem idx_no {l : List Tx} {s : Tx} (h : ∀ x ∈ l, (x == s) = false) : idxT l s = -1 := by
  induction l with
  | nil => rfl
  | cons x r ih => rw [idxT, h x (by simp), ih fun y hy => h y (by simp [hy])]; rfl
theorem idx_at {don r : List Tx} {x s : Tx} (h : ∀ y ∈ don, (y == s) = false) (hx : (x == s) = true) : idxT (don ++ x :: r) s = don.length := by
  induction don with
  | nil => simp [idxT, hx]
  | cons y d ih =>
    rw [List.cons_append, idxT, h y (by simp), ih fun z hz => h z (by simp [hz])]
    simp only [Bool.false_eq_true, if_false, List.length_cons]
    rw [if_neg (by omega)]; omega
def distS : List Tx → List Tx → Bool
  | _, [] => true
  | don, x :: r => freeL x && (idxT (don ++ x :: r) x == (don.length : Int)) && distS (don ++ [x]) r
def distT (l : List Tx) : Bool := distS [] l
def isNmd (x : Ex) : Bool := x.k == 1 || x.k == 2
def namedF (o : List Tx) (x : Ex) : Bool := !isNmd x || decide (0 ≤ idxT o x.name)
def wantF (o : List Tx) (x : Ex) : Int := if isNmd x then idxT o x.name else 0
def formF (x : Ex) : Bool :=
  if x.k = 1 then decide (x.n = 0 ∧ x.l.length = 0)
  else if x.k = 2 then decide (1 ≤ x.n ∧ x.n ≤ 4096 ∧ x.l.length = 0)
  else if x.k = 3 then decide (x.name.length = 0 ∧ 1 ≤ x.l.length ∧ x.l.length ≤ 16 ∧ 1 ≤ x.n ∧ x.n ≤ x.l.length)
  else if x.k = 4 then decide (x.name.length = 0 ∧ x.l.length = 2 ∧ 0 ≤ x.n ∧ x.n ≤ 1099511627776)
  else false
def formU (u : Bool) (x : Ex) : Bool := formF x && (u || !(x.k == 4))
def exprs (p : Pol) : List Ex := p.rules.map Rl.x ++ [p.change]
def largeF (x : Ex) : Bool := decide (256 < sizeX x) || decide (16 < depthX x)
def sizedF (p : Pol) : Bool := decide (p.offices.length ≤ 32 ∧ p.kinds.length ≤ 16 ∧ p.rules.length ≤ 16) && (exprs p).all fun x => !largeF x
def namesF (p : Pol) : Bool := (freeL p.name && distT p.offices && distT p.kinds) && (exprs p).all (allX (namedF p.offices))
def ruleF : List Tx → List Rl → Bool
  | k :: ks, r :: rs => (r.kind == k) && decide (0 ≤ r.think ∧ r.think ≤ 1099511627775) && ruleF ks rs
  | _, _ => true
def formedF (p : Pol) : Bool :=
  decide (0 < p.kinds.length ∧ p.rules.length = p.kinds.length ∧ 1 ≤ p.mode ∧ p.mode ≤ 4) && ruleF p.kinds p.rules && p.rules.all (fun r => allX (formU true) r.x) && allX (formU false) p.change
mutual
def resX (o : List Tx) : Ex → Ex
  | .mk k n no s l => .mk k n (wantF o (.mk k n no s l)) s (resXs o l)
def resXs (o : List Tx) : List Ex → List Ex
  | [] => []
  | x :: r => resX o x :: resXs o r
end
theorem resXs_map (o : List Tx) (l : List Ex) : resXs o l = l.map (resX o) := by
  induction l with
  | nil => rfl
  | cons x r ih => rw [resXs, ih, List.map_cons]
def resRl (o : List Tx) (i : Int) (r : Rl) : Rl := { r with kno := i, x := resX o r.x }
def resRs (o : List Tx) : Int → List Rl → List Rl
  | _, [] => []
  | i, r :: rs => resRl o i r :: resRs o (i + 1) rs
def resP (p : Pol) : Pol := { p with rules := resRs p.offices 0 p.rules, change := resX p.offices p.change }
/-- Resolve's error. -/
def errF (p : Pol) : Int := if sizedF p = false then 2 else if namesF p = false then 201 else if formedF p = false then 200 else 0
def resdF (o : List Tx) (x : Ex) : Bool := allX (fun y => y.no == wantF o y) x
def resdRs (o : List Tx) : Int → List Rl → Bool
  | _, [] => true
  | i, r :: rs => (r.kno == i && resdF o r.x) && resdRs o (i + 1) rs
/-- Check. -/
def checkF (p : Pol) : Int := if errF p = 0 then (if (resdRs p.offices 0 p.rules && resdF p.offices p.change) = true then 0 else 200) else errF p
end Go.Proofs.YtjdhgaflenhljaaGreatDoor
