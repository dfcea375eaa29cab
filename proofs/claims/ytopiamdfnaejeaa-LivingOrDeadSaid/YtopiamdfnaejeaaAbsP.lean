/- Contracts whose callee leaves objects of its own behind, or turns some of the caller's. It says nothing of any program; no conditions. -/
import Derived.Test.YtopiamdfnaejeaaAbsN
import Derived.Test.YtopiamdfnaejeaaAbsO
set_option linter.unusedSimpArgs false
set_option linter.unusedVariables false
namespace Go.Abs
open Go Go.RowKit

section
variable {P : Program} {Γ : Nat → Option (List AV)} {G : Gh} {h : AH} {w : World} {N : Nat} {σ : Tm} {Q : Exit → Tm → AH → Prop}

/-- **What the callee has made is dropped**; what it has turned of the caller's objects stays. -/
theorem ACalls.dropTo {f : FuncId} {args : List AV} {R : AV → AH → Prop} (H : ACalls P Γ f args h fun v h' => ∃ h2 l, h' = h2 ++ l ∧ LoopKept h h2 ∧ RB h.length v ∧ R v h2) : ACalls P Γ f args h R :=
  ⟨H.1, fun G w vs hI hv => (H.2 G w vs hI hv).mono fun e w' hr => by
    obtain ⟨v, G', av, h', rfl, k1, k2, k3, h2, l, rfl, ⟨hlen, hkept⟩, hrb, hR⟩ := hr
    refine ⟨v, G'.cut h2.length, av, h2, rfl, Gh.le_cut k1 (by rw [hlen]; exact hI.upTo), k2.drop (fun i ob e => by
      rw [hlen]
      rcases hkept i ob e with e | ⟨e, _⟩
      · exact hI.rbobj e
      · exact e) (by rw [hlen]; exact hI.rbglob), k3.cut (by rw [hlen]; exact hrb), hR⟩⟩

/-! ### What a function's end asks -/
@[go_sem] theorem ex_app (h l : AH) : (∃ m, h ++ l = h ++ m) = True := eq_true ⟨l, rfl⟩
@[go_sem] theorem ex_self (h : AH) : (∃ m, h = h ++ m) = True := eq_true ⟨[], by simp⟩
@[go_sem] theorem ex_cons1 (h l : AH) (a : AObj) : (∃ m, h ++ (a :: l) = h ++ (a :: m)) = True := eq_true ⟨l, rfl⟩
@[go_sem] theorem ex_cons2 (h l : AH) (a b : AObj) : (∃ m, h ++ (a :: b :: l) = h ++ (a :: b :: m)) = True := eq_true ⟨l, rfl⟩
@[go_sem] theorem ex_cons3 (h l : AH) (a b c : AObj) : (∃ m, h ++ (a :: b :: c :: l) = h ++ (a :: b :: c :: m)) = True := eq_true ⟨l, rfl⟩
@[go_sem] theorem ex_cons4 (h l : AH) (a b c d : AObj) : (∃ m, h ++ (a :: b :: c :: d :: l) = h ++ (a :: b :: c :: d :: m)) = True := eq_true ⟨l, rfl⟩
@[go_sem] theorem rb_bool (n : Nat) (b : Bool) : RB n (.bool b) = True := eq_true (.bool b)
@[go_sem] theorem rb_int (n : Nat) (k : IntKind) (x : Int) : RB n (.int k x) = True := eq_true (.int k x)
@[go_sem] theorem rb_str (n : Nat) (s : ByteArray) : RB n (.str s) = True := eq_true (.str s)
@[go_sem] theorem rb_nilsl (n : Nat) : RB n (.sl [] .full) = True := eq_true (.slFull (fun _ h => by cases h))
@[go_sem] theorem rb_nilfree (n : Nat) : RB n (.sl [] .free) = True := eq_true (.sl' (fun _ h => by cases h))
@[go_sem] theorem rb_tuple (n : Nat) (l : List AV) : RB n (.tuple l) = RBs n l := propext ⟨fun h => by cases h; assumption, fun h => .tuple' h⟩
@[go_sem] theorem rb_agg (n : Nat) (l : List AV) : RB n (.agg l) = RBs n l := propext ⟨fun h => by cases h; assumption, fun h => .agg' h⟩
@[go_sem] theorem rbs_cons (n : Nat) (a : AV) (l : List AV) : RBs n (a :: l) = (RB n a ∧ RBs n l) := propext ⟨fun h => ⟨h 0 a rfl, fun j c e => h (j + 1) c e⟩, fun h => .cons h.1 h.2⟩
@[go_sem] theorem rbs_nil (n : Nat) : RBs n [] = True := eq_true (RBs.nil n)

/-- A call that turns the heap to this one. -/
theorem ACalls.detH {g : FuncId} {as : List AV} {R : AV → AH → Prop} {v : AV} {h2 : AH} (H : ACalls P Γ g as h fun v' h' => h' = h2 ∧ v' = v) (hR : R v h2) : ACalls P Γ g as h R := H.mono fun v' h' e => by rw [e.1, e.2]; exact hR
theorem ACalls.heap {g : FuncId} {as : List AV} {R : AV → AH → Prop} {h1 : AH} (H : ACalls P Γ g as h1 R) (e : h1 = h) : ACalls P Γ g as h R := e ▸ H
theorem ACalls.args {g : FuncId} {as bs : List AV} {R : AV → AH → Prop} (H : ACalls P Γ g as h R) (e : as = bs) : ACalls P Γ g bs h R := e ▸ H

/-- One value may be taken for another, of which less is known. -/
def Wk (a b : AV) : Prop := ∀ G v, VR G a v → VR G b v
theorem Wk.refl (a : AV) : Wk a a := fun _ _ h => h
theorem Wk.sl (rows : List AV) (own : Own) : Wk (.sl rows own) (.sl rows .free) := fun G v h => by
  cases h with
  | sl vals h1 h2 h3 h4 h5 h6 => exact .sl vals h1 h2 h3 h4 h5 trivial
/-- Pairwise. -/
inductive Wks : List AV → List AV → Prop
  | nil : Wks [] []
  | cons {a b : AV} {l m : List AV} (h : Wk a b) (k : Wks l m) : Wks (a :: l) (b :: m)
theorem Wks.get {l m : List AV} (h : Wks l m) : l.length = m.length ∧ ∀ (j : Nat) (c : AV), m[j]? = some c → ∃ d, l[j]? = some d ∧ Wk d c := by
  induction h with
  | nil => exact ⟨rfl, fun j c e => by simp at e⟩
  | cons h _ ih =>
    refine ⟨by simp [ih.1], fun j c e => ?_⟩
    cases j with
    | zero => simp at e; subst e; exact ⟨_, rfl, h⟩
    | succ j => exact ih.2 j c (by simpa using e)
theorem Wks.refl : ∀ l : List AV, Wks l l
  | [] => .nil
  | a :: l => .cons (.refl a) (Wks.refl l)
theorem Wk.tuple {l m : List AV} (h : Wks l m) : Wk (.tuple l) (.tuple m) := fun G v hv => by
  cases hv with
  | tuple h1 h2 => exact .tuple (by rw [← h.get.1, h1]) fun j c e => by obtain ⟨d, e1, e2⟩ := h.get.2 j c e; exact e2 _ _ (h2 j d e1)
theorem Wk.agg {l m : List AV} (h : Wks l m) : Wk (.agg l) (.agg m) := fun G v hv => by
  cases hv with
  | agg h1 h2 => exact .agg (by rw [← h.get.1, h1]) fun j c e => by obtain ⟨d, e1, e2⟩ := h.get.2 j c e; exact e2 _ _ (h2 j d e1)

/-- **A contract that leaves the heap as it was**, less being known of what is handed back. -/
theorem ACalls.dropW {f : FuncId} {args : List AV} {R : AV → Prop} (H : ACalls P Γ f args h fun v h' => (∃ l, h' = h ++ l) ∧ ∃ v', Wk v v' ∧ RB h.length v' ∧ R v') : ACalls P Γ f args h fun v h' => h' = h ∧ R v :=
  ACalls.drop ⟨H.1, fun G w vs hI hv => (H.2 G w vs hI hv).mono fun e w' hr => by
    obtain ⟨v, G', av, h', rfl, h2, h3, h4, h5, v', h6, h7, h8⟩ := hr
    exact ⟨v, G', v', h', rfl, h2, h3, h6 _ _ h4, h5, h7, h8⟩⟩

/-- One own object turned, of words that speak of nothing. -/
theorem LoopKept.set {i : Nat} {ob : AObj} (hb : RBobj h.length ob) (hl : ∀ st pe li, ob ≠ .loop st pe li) : LoopKept h (h.set i ob) := by
  refine ⟨by simp, fun j o e => ?_⟩
  rw [List.getElem?_set] at e
  split at e
  · split at e
    · cases e; exact .inr ⟨hb, hl⟩
    · cases e
  · exact .inl e

/-- A range over a function, its loop's words abbreviated. -/
theorem awp_rangeFuncL {g : Operand} {ps : Array Tmp} {assign body : Code} {gf : FuncId} {first caps : List AV} (hg : ev Γ σ g = .func gf first caps)
    (H : ∀ li : LI, li = ⟨N, σ, ps, assign, body⟩ → ACalls P Γ gf (first ++ [.yield h.length] ++ caps) (h ++ [.loop .ready none li]) fun _ h' => ∃ h2 st pe l, h' = h2 ++ .loop st pe li :: l ∧ LoopKept h h2 ∧ st ≠ .busy ∧ afterLoop P Γ N Q σ h2 pe) :
    AWP P Γ N (.rangeFunc g ps assign body) Q σ h := awp_rangeFunc hg (H _ rfl)
def psOK (N : Nat) (ps : Array Tmp) : Bool := ps.toList.all (Nat.blt · N)
/-- A call of yield, its loop's words abbreviated. -/
theorem ayield_L {L N' : Nat} {li : LI} {σ' : Tm} {ps : Array Tmp} {assign body : Code} {args : List AV} {R : AV → AH → Prop} (e : li = ⟨N', σ', ps, assign, body⟩) (hL : h[L]? = some (.loop .ready none li)) (hN : psOK N' ps = true) (hlen : ps.toList.length = args.length)
    (hm : P.follows .mixedOrders = true) (hc1 : codeOK N' assign = true) (hc2 : codeOK N' body = true)
    (H : aCode P Γ N' assign (thenA (fun σ h' => h'[L]? = some (.loop .ready none li) ∧ aCode P Γ N' body (roundPostA L li R) σ (h'.set L (.loop .busy none li))) fun _ _ _ => False) (putArgs ps.toList args σ') h) : AYield P Γ L args h R := by
  subst e
  refine ayield_of_body hL (fun p hp => ?_) hlen ((aCode_ok hm _ _ _ _ hc1 H).mono fun e σ h he => ?_)
  · simp only [psOK, List.all_eq_true] at hN
    have := hN p hp
    simpa [Nat.blt_eq] using this
  · cases e with
    | normal => exact ⟨he.1, aCode_ok hm _ _ _ _ hc2 he.2⟩
    | _ => exact he
@[go_sem] theorem putArgs_cons (p : Tmp) (ps : List Tmp) (a : AV) (l : List AV) : putArgs (p :: ps) (a :: l) σ = putArgs ps l ((p, a) :: σ) := (rfl)
@[go_sem] theorem putArgs_nil : putArgs [] [] σ = σ := (rfl)
@[go_sem] theorem roundPostA_normal (L : Nat) (li : LI) (R : AV → AH → Prop) : roundPostA L li R .normal σ h = (h[L]? = some (.loop .busy none li) ∧ R (.bool true) (h.set L (.loop .ready none li))) := (rfl)
@[go_sem] theorem roundPostA_ret (L : Nat) (li : LI) (R : AV → AH → Prop) : roundPostA L li R .ret σ h = (h[L]? = some (.loop .busy none li) ∧ R (.bool false) (h.set L (.loop .done (some .ret) li))) := (rfl)
@[go_sem] theorem roundPostA_exit (L : Nat) (li : LI) (R : AV → AH → Prop) (id : Nat) : roundPostA L li R (.exit id) σ h = (h[L]? = some (.loop .busy none li) ∧ R (.bool false) (h.set L (.loop .done (some (.exit id)) li))) := (rfl)
@[go_sem] theorem afterLoop_none : afterLoop P Γ N Q σ h none = Q .normal σ h := (rfl)
theorem afterLoop_some {c : Code} (hm : P.follows .mixedOrders = true) (hc : codeOK N c = true) (H : aCode P Γ N c Q σ h) : afterLoop P Γ N Q σ h (some c) := aCode_ok hm _ _ _ _ hc H
theorem LoopKept.trans {h1 h2 : AH} (a : LoopKept h h1) (b : LoopKept h1 h2) : LoopKept h h2 :=
  ⟨b.1.trans a.1, fun i ob e => by
    rcases b.2 i ob e with e | e
    · exact a.2 i ob e
    · rw [a.1] at e; exact .inr e⟩
/-- **A contract that turns the heap to this one**: what the callee has made is dropped. -/
theorem ACalls.dropAs {f : FuncId} {args : List AV} {R : AV → Prop} {h2 : AH} (hk : LoopKept h h2) (H : ACalls P Γ f args h fun v h' => (∃ l, h' = h2 ++ l) ∧ RB h.length v ∧ R v) : ACalls P Γ f args h fun v h' => h' = h2 ∧ R v :=
  ACalls.dropTo (H.mono fun v h' e => by
    obtain ⟨⟨l, rfl⟩, k1, k2⟩ := e
    exact ⟨h2, l, rfl, hk, k1, rfl, k2⟩)
theorem hset_left {i : Nat} (l : AH) (o : AObj) (hi : i < h.length) : (h ++ l).set i o = h.set i o ++ l := List.set_append_left _ _ hi
theorem hset_same {i : Nat} {o : AObj} (e : h[i]? = some o) : h.set i o = h := by
  refine List.ext_getElem? fun j => ?_
  rw [List.getElem?_set]
  split
  · rename_i hj; subst hj
    split
    · exact e.symm
    · rename_i hn; exact absurd (List.getElem?_eq_some_iff.1 e).1 hn
  · rfl
theorem hget_setl {i : Nat} {o : AObj} (l : AH) (hi : i < h.length) : (h.set i o ++ l)[i]? = some o := by
  rw [List.getElem?_append_left (by simpa using hi), List.getElem?_set_self hi]
theorem hget_of {i : Nat} {o : AObj} (e : h[i]? = some o) : i < h.length := (List.getElem?_eq_some_iff.1 e).1
theorem hget_in {i : Nat} (l : AH) (hi : i < h.length) : (h ++ l)[i]? = h[i]? := List.getElem?_append_left hi

/-! ### Loops over a list's elements -/
/-- How a round over an element is left. -/
def roundL {α β : Type} (L : List Nat) (st : List α → β → Tm) (hp : β → AH) (inv : List α → List α → β → Prop) (don : List α) (x : α) (r : List α) (Q : Exit → Tm → AH → Prop) : Exit → Tm → AH → Prop
  | .normal, σ, h => ∃ b, inv (don ++ [x]) r b ∧ Wkt (keep L σ) (st (don ++ [x]) b) ∧ h = hp b
  | e, σ, h => Q e σ h
/-- Behind the last element no round ends. -/
def roundZ (Q : Exit → Tm → AH → Prop) : Exit → Tm → AH → Prop
  | .normal, _, _ => False
  | e, σ, h => Q e σ h
@[go_sem] theorem roundL_ret {α β : Type} {L : List Nat} {st : List α → β → Tm} {hp : β → AH} {inv : List α → List α → β → Prop} {don : List α} {x : α} {r : List α} : roundL L st hp inv don x r Q .ret σ h = Q .ret σ h := (rfl)
@[go_sem] theorem roundL_exit {α β : Type} {L : List Nat} {st : List α → β → Tm} {hp : β → AH} {inv : List α → List α → β → Prop} {don : List α} {x : α} {r : List α} (l : Nat) : roundL L st hp inv don x r Q (.exit l) σ h = Q (.exit l) σ h := (rfl)
@[go_sem] theorem roundZ_ret : roundZ Q .ret σ h = Q .ret σ h := (rfl)
@[go_sem] theorem roundZ_exit (l : Nat) : roundZ Q (.exit l) σ h = Q (.exit l) σ h := (rfl)
theorem roundL_next {α β : Type} {L : List Nat} {st : List α → β → Tm} {hp : β → AH} {inv : List α → List α → β → Prop} {don : List α} {x : α} {r : List α} (b : β) (h1 : inv (don ++ [x]) r b) (h2 : keep L σ = st (don ++ [x]) b) (h3 : h = hp b) :
    roundL L st hp inv don x r Q .normal σ h := ⟨b, h1, .of_eq h2, h3⟩

/-- **A loop over a list's elements.** -/
theorem awp_loopL {α β : Type} {c : Code} (xs : List α) (L : List Nat) (st : List α → β → Tm) (hp : β → AH) (inv : List α → List α → β → Prop) (b0 : β) (h1 : keep L σ = st [] b0) (h2 : h = hp b0) (h3 : inv [] xs b0)
    (hm : P.follows .mixedOrders = true) (hc : codeOK N c = true) (H1 : ∀ don x r b, xs = don ++ x :: r → inv don (x :: r) b → aCode P Γ N c (roundL L st hp inv don x r Q) (st don b) (hp b))
    (H0 : ∀ b, inv xs [] b → aCode P Γ N c (roundZ Q) (st xs b) (hp b)) : AWP P Γ N (.loop c) Q σ h := by
  refine awp_loop (fun n σ h => ∃ don rest b, n = rest.length ∧ xs = don ++ rest ∧ inv don rest b ∧ Wkt (keep L σ) (st don b) ∧ h = hp b) ⟨[], xs, b0, rfl, rfl, h3, .of_eq h1, h2⟩ fun n σ h hx => ?_
  obtain ⟨don, rest, b, rfl, hxs, hi, hs, rfl⟩ := hx
  refine AWP.keep L (AWP.wks ?_ hs)
  cases rest with
  | nil =>
    rw [List.append_nil] at hxs
    subst hxs
    refine (aCode_ok hm c _ _ _ hc (H0 b hi)).mono fun e σ h he => ?_
    cases e with
    | normal => exact he.elim
    | _ => exact he
  | cons x r =>
    refine (aCode_ok hm c _ _ _ hc (H1 don x r b hxs hi)).mono fun e σ h he => ?_
    cases e with
    | normal =>
      obtain ⟨b', k1, k2, k3⟩ := he
      exact ⟨r.length, by simp, don ++ [x], r, b', rfl, by simp [hxs], k1, k2, k3⟩
    | _ => exact he
end
end Go.Abs
