/- Texts joined: AbsZd, AbsZe, AbsZf. No conditions. -/
import Derived.Test.YtjdhgaflenhljaaGreatDoorMrAAZ
import Derived.Test.YtjdhgaflenhljaaGreatDoorMrG
import Derived.Test.YtjdhgaflenhljaaGreatDoorMrD
import Derived.Test.YtjdhgaflenhljaaGreatDoorMrAA
/- Calls of methods by their names; arrays of one's own with rows of several cells. It says nothing of any program; no conditions. -/
set_option linter.unusedSimpArgs false
set_option linter.unusedVariables false
namespace Go.Abs
open Go Go.RowKit

section
variable {P : Program} {Γ : Nat → Option (List AV)} {G : Gh} {h : AH} {w : World} {N : Nat} {σ : Tm}

/-- What a type's table says of a method that stands in the type itself: the function, and whether it wants the pointer. -/
def mrow (P : Program) (t : TypeId) (name : String) : Option (FuncId × Bool) :=
  match P.info? t with
  | some i => (match i.methods.find? (·.name == name) with
    | some m => if m.path.isEmpty then m.func else none
    | none => none)
  | none => none

theorem AMeth.ptr {t e : TypeId} {v : AV} {name : String} {f : FuncId} (hu : P.underlying t = some (.pointer e)) (hm : mrow P t name = some (f, true)) : AMeth P Γ t v name h f v := fun G w u hI hv => by
  refine ⟨u, ?_, hv⟩
  unfold mrow at hm
  split at hm
  · rename_i i hi
    split at hm
    · rename_i m hf
      split at hm
      · rename_i hp
        have hp' : m.path = #[] := by simpa using hp
        obtain ⟨k, hfuel⟩ : ∃ k, P.types.size + Made.depth = k + 1 := ⟨P.types.size + 99, rfl⟩
        rw [hfuel, method]
        simp only [typeInfo, Sem.run_bind, run_program, Result.andThen_ok, hi, Sem.run_pure, hf, hp', follow, hm, receiverAt, underlying, hu, Place.get]
      · cases hm
    · cases hm
  · cases hm

theorem wrap (xt : TypeId) (ad : Addr) (name : String) : Builtin.ssaWrapNilChk_ #[xt] xt #[.pointer (some ad), strVal "", strVal name] = pure (.pointer (some ad)) := rfl
theorem AMeth.cell {t e : TypeId} {v x : AV} {name : String} {f : FuncId} (hu : P.underlying t = some (.pointer e)) (hm : mrow P t name = some (f, false)) (hl : aLoad P e v h fun y _ => y = x) : AMeth P Γ t v name h f x := fun G w u hI hv => by
  obtain ⟨ad, u', av, rfl, r, hv', rfl⟩ := loadAt_same hI hv hl
  refine ⟨u', ?_, hv'⟩
  unfold mrow at hm
  split at hm
  · rename_i i hi
    split at hm
    · rename_i m hf
      split at hm
      · rename_i hp
        have hp' : m.path = #[] := by simpa using hp
        obtain ⟨k, hfuel⟩ : ∃ k, P.types.size + Made.depth = k + 1 := ⟨P.types.size + 99, rfl⟩
        rw [hfuel, method]
        simp only [typeInfo, Sem.run_bind, run_program, Result.andThen_ok, hi, Sem.run_pure, hf, hp', follow, hm, receiverAt, underlying, hu, Place.get, hp, if_true, wrap, asAddr, pure_bind, r, show (#[] : Array FieldStep).isEmpty = true from rfl]
      · cases hm
    · cases hm
  · cases hm

@[go_sem] theorem aOp1_invoke (r : Operand) (name : String) (as : List Operand) (ts : Array TypeId) (K : AV → Tm → AH → Prop) : aOp1 P Γ (.call { callee := .invoke r name, args := as.toArray, argTypes := ts }) K σ h = aInvoke P Γ (ev Γ σ r) name (as.map (ev Γ σ)) h (aNext K σ) := (rfl)

end

/-! ### Rows of several cells -/
section
variable {α : Type} (enc : α → List AV) (n : Nat)

def cR (l : List α) (pad : List AV) : List AV := l.flatMap enc ++ pad
variable {enc n}
/-- A list of one's own as an array (its place in the heap is q), with room behind it. -/
def OwnC (enc : α → List AV) (n b q : Nat) (j : AH) (T : TypeId) (v : AV) (l : List α) : Prop :=
  ∃ c pad, v = .ms (b + q) 0 l.length c n ∧ j[q]? = some (.row (cR enc l pad) T) ∧ c * n = l.length * n + pad.length ∧ (∀ a ∈ pad, a.isAgg = false)
theorem OwnC.get {b q : Nat} {j : AH} {T : TypeId} {v : AV} {l : List α} (h : OwnC enc n b q j T v l) {i : Nat} {k : AH} (hk : b = k.length) : ∃ c pad, v = .ms (b + q) 0 l.length c n ∧ (k ++ j)[b + q]? = some (.row (cR enc l pad) T) := by
  obtain ⟨c, pad, h1, h2, _⟩ := h
  exact ⟨c, pad, h1, by rw [hk, hget_add]; exact h2⟩
theorem OwnC.more {b q : Nat} {j : AH} {T : TypeId} {v : AV} {l : List α} (h : OwnC enc n b q j T v l) (k : AH) : OwnC enc n b q (j ++ k) T v l := by
  obtain ⟨c, pad, h1, h2, h3⟩ := h
  exact ⟨c, pad, h1, by rw [List.getElem?_append_left (List.getElem?_eq_some_iff.1 h2).1]; exact h2, h3⟩
end
section
variable {P : Program} {Γ : Nat → Option (List AV)}
variable {h : AH} {N : Nat} {σ : Tm} {Q : Exit → Tm → AH → Prop}
/-- Code that runs off its end, what it leaves being known. -/
def onlyN (kp : List Nat) (G : Tm → AH → Prop) : Exit → Tm → AH → Prop
  | .normal, σ, h => G (keep kp σ) h
  | _, _, _ => False
@[go_sem] theorem onlyN_normal (kp : List Nat) (G : Tm → AH → Prop) : onlyN kp G .normal σ h = G (keep kp σ) h := (rfl)
/-- The end of a round, its code not reckoned at once. -/
def roundV (kp : List Nat) (st : Tm) (I : AH → Prop) (Q : Exit → Tm → AH → Prop) : Exit → Tm → AH → Prop
  | .normal, σ, h => I h ∧ keep kp σ = st
  | e, σ, h => Q e σ h
@[go_sem] theorem roundV_normal {kp : List Nat} {st : Tm} {I : AH → Prop} : roundV kp st I Q .normal σ h = (I h ∧ keep kp σ = st) := (rfl)
@[go_sem] theorem roundV_ret {kp : List Nat} {st : Tm} {I : AH → Prop} : roundV kp st I Q .ret σ h = Q .ret σ h := (rfl)
@[go_sem] theorem roundV_exit {kp : List Nat} {st : Tm} {I : AH → Prop} (i : Nat) : roundV kp st I Q (.exit i) σ h = Q (.exit i) σ h := (rfl)
/-- A loop whose rounds are no code that is reckoned at once. -/
theorem awp_loopV {α : Type} {c : Code} (xs : List α) (L : List Nat) (st : List α → Tm) (inv : List α → List α → AH → Prop) (h1 : keep L σ = st []) (h3 : inv [] xs h)
    (H1 : ∀ don x r h, xs = don ++ x :: r → inv don (x :: r) h → AWP P Γ N c (roundV L (st (don ++ [x])) (inv (don ++ [x]) r) Q) (st don) h)
    (H0 : ∀ h, inv xs [] h → AWP P Γ N c (roundZ Q) (st xs) h) : AWP P Γ N (.loop c) Q σ h := by
  refine awp_loop (fun n σ h => ∃ don rest, n = rest.length ∧ xs = don ++ rest ∧ inv don rest h ∧ keep L σ = st don) ⟨[], xs, rfl, rfl, h3, h1⟩ fun n σ h hx => ?_
  obtain ⟨don, rest, rfl, hxs, hi, hs⟩ := hx
  refine AWP.keep L ?_
  rw [hs]
  cases rest with
  | nil =>
    rw [List.append_nil] at hxs
    subst hxs
    refine (H0 h hi).mono fun e σ h he => ?_
    cases e with
    | normal => exact he.elim
    | _ => exact he
  | cons x r =>
    refine (H1 don x r h hxs hi).mono fun e σ h he => ?_
    cases e with
    | normal => exact ⟨r.length, by simp, don ++ [x], r, rfl, by simp [hxs], he.1, he.2⟩
    | _ => exact he
end
end Go.Abs

/- A region that draws its order, its last operation being ordered with all others: that one may panic. It says nothing of any program; no conditions. -/
set_option linter.unusedSimpArgs false
set_option linter.unusedVariables false
namespace Go.Abs
open Go Go.RowKit

def QQ (Q : Exit → Tm → AH → Prop) : Exit → Tm → AH → Prop := fun e σ h => ∃ σ3, Eqv σ σ3 ∧ Q e σ3 h
section
variable {P : Program} {Γ : Nat → Option (List AV)} {G : Gh} {h : AH} {w : World} {N B : Nat} {σ σ' : Tm} {Q : Exit → Tm → AH → Prop} {ops : Array Oper}

theorem bar_okX (hd : drawOK ops = true) (hN : dstOK N ops = true) {c : Nat} {o : Oper} (ho : ops[c]? = some o) (hB : barOK ops c = true) (hlast : c + 1 = ops.size) {G0 : Gh} {ds : List Deferred} {r : Option Nat} :
    ∀ (fuel : Nat) (listed : Array Bool) (a : Act) (w : World) (G : Gh) (σ : Tm) (h : AH), listed.size = ops.size → ClosedL ops listed → listed.getD c true = false → (rem ops listed).length ≤ fuel → G0.le G → Inv Γ G h w → TR N G σ a.tmps → a.defers = ds → Sep σ (seps ops.toList) →
      (∃ m, Seq1 P Γ ops.toList m h (((rem ops listed).filter (· < c)).filterMap (ops[·]?)) σ fun σ h => ∃ σ3, Eqv σ σ3 ∧
        aOpsX P Γ B ops.toList Q [o] σ3 h) →
      wpAnyIn (Fr r) 0 P .any ops (Post Γ N G0 ds (QQ Q)) fuel listed a w := by
  have hc1 : c < ops.size := (Array.getElem?_eq_some_iff.1 ho).1
  have hdst : ∀ (i : Nat) (o : Oper), ops[i]? = some o → ∀ x, o.dst = some x → x < N := fun i o ho x hx => by
    have := List.all_eq_true.1 hN o (by simpa using Array.mem_of_getElem? ho)
    rw [hx] at this
    exact Nat.le_of_ble_eq_true this
  have hrr : ∀ {listed : Array Bool} {i : Nat}, listed.size = ops.size → i ∈ Region.ready .any ops listed → i ∈ rem ops listed := fun hs hi => by
    obtain ⟨h0, o, ho, _⟩ := mem_ready.1 hi
    exact mem_rem.2 ⟨(Array.getElem?_eq_some_iff.1 ho).1, h0⟩
  have hleast : ∀ {listed : Array Bool}, listed.size = ops.size → rem ops listed ≠ [] → Region.ready .any ops listed ≠ [] := fun {listed} hs hne hr => by
    cases hl : rem ops listed with
    | nil => exact hne hl
    | cons m L =>
      obtain ⟨hm1, hm2⟩ := mem_rem.1 (show m ∈ rem ops listed by rw [hl]; exact List.mem_cons_self ..)
      have hmin : ∀ j ∈ rem ops listed, m ≤ j := fun j hj => by
        have hp := rem_lt (ops := ops) listed
        rw [hl] at hp hj
        rcases List.mem_cons.1 hj with rfl | hj
        · exact Nat.le_refl _
        · exact Nat.le_of_lt ((List.pairwise_cons.1 hp).1 j hj)
      have : m ∈ Region.ready .any ops listed := mem_ready.2 ⟨hm2, ops[m], Array.getElem?_eq_getElem hm1, fun e he hb => by
        have hlt := (drawOK_at hd (Array.getElem?_eq_getElem hm1)).2.1 e he hb
        rw [getD_ff (by rw [hs]; omega)]
        cases hx : listed.getD e.on true with
        | true => rfl
        | false => have := hmin e.on (mem_rem.2 ⟨by omega, hx⟩); omega⟩
      rw [hr] at this; cases this
  intro fuel
  induction fuel with
  | zero =>
    intro listed a w G σ h hs hc hcl hf hle hI ht had hsp H
    have hr : rem ops listed = [] := List.length_eq_zero_iff.1 (by omega)
    have : c ∈ rem ops listed := mem_rem.2 ⟨hc1, hcl⟩
    rw [hr] at this; cases this
  | succ fuel ih =>
    intro listed a w G σ h hs hc hcl hf hle hI ht had hsp H
    have hcm : c ∈ rem ops listed := mem_rem.2 ⟨hc1, hcl⟩
    refine ⟨fun hr => absurd hr (hleast hs fun e => by rw [e] at hcm; cases hcm), fun i hi => ?_⟩
    have him := hrr hs hi
    obtain ⟨hi0, oi, hoi, hedges⟩ := mem_ready.1 hi
    obtain ⟨L1, L2, e1, e2, e3⟩ := rem_set hs him
    obtain ⟨hb1, hb2, hb3⟩ := drawOK_at hd hoi
    have hil : i < ops.size := (Array.getElem?_eq_some_iff.1 hoi).1
    have hpre : ∀ j, j < ops.size → ((Region.before ops).getD i 0).testBit j = true → listed.getD j true = true := fun j hj hbit => by
      rw [hb1] at hbit
      rcases foldB_aux _ j _ _ hbit with h0 | ⟨e, he, hbd, hor⟩
      · simp at h0
      · have hel := hedges e (by simpa using he) hbd
        have helt := hb2 e (by simpa using he) hbd
        rw [getD_ff (by omega)] at hel
        rcases hor with rfl | hor
        · exact hel
        · exact hc e.on (by omega) hel j hj hor
    have hc' : ClosedL ops (listed.setIfInBounds i true) := fun k hk hkl j hj hbit => by
      by_cases hji : j = i
      · subst hji; exact getD_set_self (by omega) _
      · rw [getD_set_other (fun e => hji e.symm)]
        by_cases hki : k = i
        · subst hki; exact hpre j hj hbit
        · rw [getD_set_other (fun e => hki e.symm)] at hkl
          exact hc k hk hkl j hj hbit
    have hf' : (rem ops (listed.setIfInBounds i true)).length ≤ fuel := by rw [e1] at hf; rw [e2]; simp at hf ⊢; omega
    obtain ⟨m, H⟩ := H
    have hlt12 : ∀ j ∈ L2, i < j := fun j hj => by
      have hp := rem_lt (ops := ops) listed
      rw [e1] at hp
      exact (List.pairwise_cons.1 (List.pairwise_append.1 hp).2.1).1 j hj
    rcases Nat.lt_trichotomy i c with hic | hic | hic
    · -- ahead of it
      have hfl : (rem ops listed).filter (· < c) = L1 ++ i :: L2.filter (· < c) := by
        rw [e1, List.filter_append, List.filter_cons_of_pos (by simpa using hic), List.filter_eq_self.2 fun j hj => by have := (e3 j hj).1; simp; omega]
      have hfl2 : (rem ops (listed.setIfInBounds i true)).filter (· < c) = L1 ++ L2.filter (· < c) := by
        rw [e2, List.filter_append, List.filter_eq_self.2 fun j hj => by have := (e3 j hj).1; simp; omega]
      rw [hfl, List.filterMap_append, List.filterMap_cons, hoi] at H
      simp only at H
      have hap : ∀ x ∈ L1.filterMap (ops[·]?), apart1 ops.toList oi x = true ∧ x ∈ ops.toList := fun x hx => by
        obtain ⟨j, hj, hjx⟩ := List.mem_filterMap.1 hx
        obtain ⟨j1, j2⟩ := e3 j hj
        refine ⟨?_, by simpa using Array.mem_of_getElem? hjx⟩
        refine hb3 j x j1 hjx ?_
        cases hbit : ((Region.before ops).getD i 0).testBit j with
        | false => rfl
        | true => rw [hpre j (by omega) hbit] at j2; cases j2
      obtain ⟨v, h2, s1, _, s2⟩ := Seq1.pull _ _ _ _ hap hsp H
      have s3 := Seq1.mono _ _ _ _ (fun σ h (k : ∃ σ', Eqv σ σ' ∧ ∃ σ3, Eqv σ' σ3 ∧ _) => by
        obtain ⟨σ', k1, σ3, k2, k3⟩ := k
        exact (⟨σ3, fun i => (k1 i).trans (k2 i), k3⟩ : ∃ σ3, Eqv σ σ3 ∧ aOpsX P Γ B ops.toList Q [o] σ3 h)) s2
      rw [← List.filterMap_append, ← hfl2] at s3
      have hcl' : (listed.setIfInBounds i true).getD c true = false := by rw [getD_set_other (by omega)]; exact hcl
      have hdo := hdst i oi hoi
      have hsp' : ∀ v', Sep (put oi.dst v' σ) (seps ops.toList) := fun v' => hsp.put (by simpa using Array.mem_of_getElem? hoi)
      unfold wpOpIn
      simp only [hoi]
      have run : DetV P Γ oi σ h v h2 → oi.wpIn (Fr r) 0 P a w (wpAnyIn (Fr r) 0 P .any ops (Post Γ N G0 ds (QQ Q)) fuel (listed.setIfInBounds i true)) (Post Γ N G0 ds (QQ Q)) := fun H =>
        aOper0_ok hI ht H fun u v' G' h' w' k1 k2 k3 k4 => by
          obtain ⟨rfl, rfl⟩ := k4
          exact ih _ _ w' G' _ _ (by simpa using hs) hc' hcl' hf' (hle.trans k1) k2 ((ht.mono k1).put hdo k3) ((put_defers a oi.dst u).trans had) (hsp' _) ⟨m, s3⟩
      by_cases hal : isAl oi = true
      · obtain ⟨ha1, ha2⟩ := isAl_al hal
        unfold Region.wanted
        simp only [ha2, if_true]
        exact (s1.al hal).ok hI ht ha1 fun u G' w' k1 k2 k3 =>
          ih _ _ w' G' _ _ (by simpa using hs) hc' hcl' hf' (hle.trans k1) k2 ((ht.mono k1).put hdo k3) ((put_defers a oi.dst u).trans had) (hsp' _) ⟨m, s3⟩
      have s1 := s1.no hal
      unfold Step1 at s1
      unfold Region.wanted
      split at s1
      · rename_i hg
        simp only [hg, if_true]
        exact run s1
      · rename_i j want hg
        simp only [hg]
        obtain ⟨t, b, hj, hb, hor⟩ := s1
        rw [dstAt_eq, Array.getElem?_toList] at hj
        rw [yielded_gv ht hj hb]
        rcases hor with ⟨rfl, hv⟩ | ⟨hbn, rfl, rfl⟩
        · simp only [beq_self_eq_true, if_true]; exact run hv
        · have : (b == some want) = false := by simpa using hbn
          simp only [this, Bool.false_eq_true, if_false]
          exact ⟨fun _ _ => trivial, ih _ _ w G _ _ (by simpa using hs) hc' hcl' hf' hle hI (ht.put hdo (VR.undef G)) ((put_defers a oi.dst undef).trans had) (hsp' _) ⟨m, s3⟩⟩
    · -- itself
      subst hic
      obtain rfl : oi = o := Option.some.inj (hoi.symm.trans ho)
      have hall : ∀ j, j < i → listed.getD j true = true := fun j hj => hpre j (by omega) ((barOK_at hB (by omega)).1 hj)
      have hL1 : L1 = [] := by
        cases hL : L1 with
        | nil => rfl
        | cons j _ =>
          have := e3 j (by rw [hL]; exact List.mem_cons_self ..)
          rw [hall j this.1] at this; cases this.2
      subst hL1
      rw [List.nil_append] at e1 e2
      have hL2 : L2 = (List.range ops.size).filter (i < ·) := by
        have : rem ops (listed.setIfInBounds i true) = (List.range ops.size).filter (i < ·) := by
          unfold rem
          refine List.filter_congr fun j hj => ?_
          have hjs := List.mem_range.1 hj
          rcases Nat.lt_trichotomy j i with h | h | h
          · rw [getD_set_other (by omega), hall j h]; simp; omega
          · subst h; rw [getD_set_self (by omega)]; simp
          · rw [getD_set_other (by omega)]
            have : listed.getD j true = false := by
              cases hx : listed.getD j true with
              | false => rfl
              | true => rw [hc j hjs hx i hil ((barOK_at hB hjs).2 h)] at hcl; cases hcl
            rw [this]; simp [h]
        rw [← e2, this]
      have hfl : (rem ops listed).filter (· < i) = [] := by
        rw [e1, List.filter_cons_of_neg (by simp)]
        exact List.filter_eq_nil_iff.2 fun j hj => by have := hlt12 j hj; simp; omega
      rw [hfl, List.filterMap_nil] at H
      obtain ⟨σ3, hev, H⟩ := (show ∃ σ3, _ from H)
      have hdo := hdst i oi hoi
      have hrem : rem ops (listed.setIfInBounds i true) = [] := by
        rw [e2, hL2]
        exact List.filter_eq_nil_iff.2 fun j hj => by have := List.mem_range.1 hj; simp; omega
      have hrd : Region.ready .any ops (listed.setIfInBounds i true) = [] := by
        cases hx : Region.ready .any ops (listed.setIfInBounds i true) with
        | nil => rfl
        | cons k l =>
          have := hrr (listed := listed.setIfInBounds i true) (by simpa using hs) (show k ∈ _ by rw [hx]; exact List.mem_cons_self ..)
          rw [hrem] at this; cases this
      have fin : ∀ (σ' : Tm) (h' : AH) (G' : Gh) (w' : World) (a' : Act), Q .normal σ' h' → G0.le G' → Inv Γ G' h' w' → TR N G' σ' a'.tmps → a'.defers = ds →
          wpAnyIn (Fr r) 0 P .any ops (Post Γ N G0 ds (QQ Q)) fuel (listed.setIfInBounds i true) a' w' := fun σ' h' G' w' a' H' k1 k2 k3 k4 => by
        have hp : Post Γ N G0 ds (QQ Q) .normal a' w' := ⟨G', σ', h', [], k1, k2, k3, by simpa using k4, fun D hD => by simp at hD, List.nodup_nil, σ', fun _ => rfl, H'⟩
        cases fuel with
        | zero => exact ⟨hrd, hp⟩
        | succ n => exact ⟨fun _ => hp, fun k hk => by rw [hrd] at hk; cases hk⟩
      have hmem : oi ∈ ops.toList := by simpa using Array.mem_of_getElem? hoi
      have ht3 := ht.eqv hev
      have hsp3 := hsp.eqv hev
      clear ht hsp
      unfold wpOpIn
      simp only [hoi]
      have run : ∀ σ, TR N G σ a.tmps → Sep σ (seps ops.toList) → aOp1X P Γ B oi (fun v σ h => aOpsX P Γ B ops.toList Q [] (put oi.dst v σ) h) Q σ h →
          oi.wpIn (Fr r) 0 P a w (wpAnyIn (Fr r) 0 P .any ops (Post Γ N G0 ds (QQ Q)) fuel (listed.setIfInBounds i true)) (Post Γ N G0 ds (QQ Q)) := fun σ ht hsp H =>
        aOp1X_ok hI ht H (fun u v G' h' w' h1 h2 h3 h4 =>
          fin _ h' G' w' _ h4 (hle.trans h1) h2 ((ht.mono h1).put hdo h3) ((put_defers a oi.dst u).trans had))
          fun u G' h' w' h1 h2 h3 => ⟨G', σ, h', [], hle.trans h1, h2, ht.mono h1, by simpa using had, fun D hD => by simp at hD, List.nodup_nil, σ, fun _ => rfl, h3⟩
      have pass : ∀ σ, TR N G σ a.tmps → Sep σ (seps ops.toList) → aOpsX P Γ B ops.toList Q [] (put oi.dst (.tuple []) σ) h →
          (∀ f, oi.about P w a.eval = some f → (Fr r).fn f) ∧ wpAnyIn (Fr r) 0 P .any ops (Post Γ N G0 ds (QQ Q)) fuel (listed.setIfInBounds i true) (a.put oi.dst undef) w := fun σ ht hsp H =>
        ⟨fun _ _ => trivial, fin _ h G w _ H hle hI (ht.put hdo (VR.undef G)) ((put_defers a oi.dst undef).trans had)⟩
      simp only [aOpsX] at H
      unfold Region.wanted
      split at H
      · rename_i hg
        simp only [hg, if_true]
        exact run σ3 ht3 hsp3 H
      · rename_i j want hg
        simp only [hg]
        unfold aDst at H
        split at H
        · rename_i t hj
          rw [dstAt_eq, Array.getElem?_toList] at hj
          rcases aBoolG_inv H with ⟨b, hb, H1, H2⟩ | ⟨hb, H⟩
          · rw [yielded_ok ht3 hj hb]
            by_cases hbw : b = want
            · subst hbw; simp only [beq_self_eq_true, if_true]; exact run _ (ht3.same hb) (hsp3.eqv (Eqv.same hb)) (H1 rfl)
            · have : (some b == some want) = false := by cases b <;> cases want <;> simp_all
              simp only [this, Bool.false_eq_true, if_false]
              have hbn : b = !want := by cases b <;> cases want <;> simp_all
              exact pass _ (ht3.same (hb.trans (by rw [hbn]))) (hsp3.eqv (Eqv.same (hb.trans (by rw [hbn])))) (H2 hbn)
          · rw [yielded_none ht3 hj hb]
            have : ((none : Option Bool) == some want) = false := rfl
            simp only [this, Bool.false_eq_true, if_false]
            exact pass _ ht3 hsp3 H
        · exact H.elim
    · -- behind it: not yet
      have := hpre c hc1 ((barOK_at hB hil).2 hic)
      rw [this] at hcl; cases hcl


theorem awp_drawX {id c : Nat} {o : Oper} (ho : ops[c]? = some o) (hlast : c + 1 = ops.size) (hB : barOK ops c = true) (hm : P.follows .mixedOrders = true) (hd : drawOK ops = true) (hN : dstOK N ops = true) (hsp : Sep σ (seps ops.toList))
    (H : aDets P Γ ops.toList (fun σ h => aOpsX P Γ B ops.toList Q [o] σ h) (ops.toList.take c) σ h) : AWP P Γ N (.region id ops true) Q σ h := fun r G w a hr hI ht => by
  have hc1 : c < ops.size := (Array.getElem?_eq_some_iff.1 ho).1
  have hs := aDets_seq _ 0 _ σ σ (Nat.zero_le _) (fun _ => rfl) H
  have e2 : ((List.range ops.size).filter (· < c)).filterMap (ops[·]?) = ops.toList.take c := by
    have := range_take ops.toList c (by simp; omega)
    simpa using this
  rw [← e2] at hs
  refine wpIn_mono (Q := Post Γ N G a.defers (QQ Q)) ?_ fun e a' w' hp => ?_
  · refine wpIn_region_any hm (bar_okX (B := B) hd hN ho hB hlast ops.size _ a _ G σ h (by simp) (fun i hi hl => ?_) ?_ ?_ (Gh.le.refl G) ?_ ht rfl hsp ?_)
    · simp [Array.getD_eq_getD_getElem?, hi] at hl
    · simp [Array.getD_eq_getD_getElem?, hc1]
    · rw [rem_all]; simp
    · exact hI.later (Nat.le_refl _) rfl rfl rfl (fun _ _ => rfl)
    · rw [rem_all]; exact ⟨0, hs⟩
  · obtain ⟨G', σ', h', Ds, h1, h2, h3, h4, h5, h6, σ3, k1, k2⟩ := hp
    exact ⟨G', σ3, h', Ds, h1, h2, ⟨h3.1, fun i => by rw [← k1 i]; exact h3.2 i⟩, h4, h5, h6, k2⟩
end
end Go.Abs

/- A range over an iterator whose contract is told by the invariant of whoever consumes it. It says nothing of any program; no conditions. -/
set_option linter.unusedSimpArgs false
set_option linter.unusedVariables false
namespace Go.Abs
open Go Go.RowKit

section
variable {P : Program} {Γ : Nat → Option (List AV)} {N : Nat} {σ : Tm} {Q : Exit → Tm → AH → Prop}
theorem NoLoop.app2 {a b : AH} (ha : NoLoop a) (hb : NoLoop b) : NoLoop (a ++ b) := fun ob ho => (List.mem_append.1 ho).elim (ha ob) (hb ob)
theorem NoLoop.none : NoLoop [] := fun ob ho => by cases ho
theorem NoLoop.row1 (cs : List AV) (T : TypeId) : NoLoop [.row cs T] := fun ob ho st pe lj e => by rw [List.mem_singleton] at ho; subst ho; cases e
end
end Go.Abs
