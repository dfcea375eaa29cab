/- Texts joined: AbsU, AbsV, AbsW, AbsX, AbsY. No conditions. -/
import Derived.Test.YtjdhgaflenhljaaGreatDoorMrG
import Derived.RecoverIn
/- Regions that draw their order, but end in a fixed one. It says nothing of any program; no conditions. -/
set_option linter.unusedSimpArgs false
set_option linter.unusedVariables false
namespace Go.Abs
open Go Go.RowKit

section
variable {P : Program} {Γ : Nat → Option (List AV)} {G : Gh} {h : AH} {w : World} {N : Nat} {σ σ' : Tm} {Q : Exit → Tm → AH → Prop} {ops : Array Oper}

end
end Go.Abs

/- Loops and functions whose code is run part by part; who consumes what a function yields. It says nothing of any program; no conditions. -/
set_option linter.unusedSimpArgs false
set_option linter.unusedVariables false
namespace Go.Abs
open Go Go.RowKit
section
variable {P : Program} {Γ : Nat → Option (List AV)} {h : AH} {N : Nat} {σ : Tm} {Q : Exit → Tm → AH → Prop}
end
/-! ### Who consumes what a function yields -/
def AV.isFn : AV → Bool
  | .func .. => true
  | .yield _ => true
  | _ => false
/-- What is left of the objects from b on. -/
structure Kept (b : Nat) (h h' : AH) : Prop where
  len : h.length ≤ h'.length
  fn : ∀ (i : Nat) (c : AV) (T : TypeId), b ≤ i → c.isFn = true → h[i]? = some (.row [c] T) → h'[i]? = some (.row [c] T)
  lp : ∀ (i : Nat) (st : LoopState) (pe : Option Code) (li : LI), b ≤ i → (h[i]? = some (.loop st pe li) ↔ h'[i]? = some (.loop st pe li))
  old : ∀ (i : Nat) (st : LoopState) (pe : Option Code) (li : LI), h'[i]? = some (.loop st pe li) → ∃ st0 pe0 li0, h[i]? = some (.loop st0 pe0 li0)
theorem Kept.refl (b : Nat) (h : AH) : Kept b h h := ⟨Nat.le_refl _, fun _ _ _ _ _ e => e, fun _ _ _ _ _ => Iff.rfl, fun _ _ _ _ e => ⟨_, _, _, e⟩⟩
theorem Kept.trans {b : Nat} {h h1 h2 : AH} (x : Kept b h h1) (y : Kept b h1 h2) : Kept b h h2 :=
  ⟨Nat.le_trans x.len y.len, fun i c T hb hf e => y.fn i c T hb hf (x.fn i c T hb hf e), fun i st pe li hb => (x.lp i st pe li hb).trans (y.lp i st pe li hb), fun i st pe li e => by obtain ⟨a, b, c, e⟩ := y.old i st pe li e; exact x.old i a b c e⟩
def NoLoop (j : AH) : Prop := ∀ ob ∈ j, ∀ st pe li, ob ≠ .loop st pe li
theorem Kept.app (b : Nat) (h : AH) {l : AH} (hl : NoLoop l) : Kept b h (h ++ l) :=
  ⟨by simp, fun i c T _ _ e => by rw [List.getElem?_append_left (List.getElem?_eq_some_iff.1 e).1]; exact e, fun i st pe li _ => by
    by_cases hi : i < h.length
    · rw [List.getElem?_append_left hi]
    · rw [List.getElem?_eq_none (by omega), List.getElem?_append_right (by omega)]
      constructor
      · intro e; cases e
      · intro e; exact absurd rfl (hl _ (List.mem_of_getElem? e) st pe li), fun i st pe li e => by
    by_cases hi : i < h.length
    · rw [List.getElem?_append_left hi] at e; exact ⟨_, _, _, e⟩
    · rw [List.getElem?_append_right (by omega)] at e; exact absurd rfl (hl _ (List.mem_of_getElem? e) st pe li)⟩
/-- Changes that concern nobody else: objects made, loops from b on turned. -/
def Fra (b : Nat) (h h' : AH) : Prop := h.length ≤ h'.length ∧ ∀ (i : Nat) (ob : AObj), h[i]? = some ob → h'[i]? = some ob ∨ (b ≤ i ∧ ∃ st pe li, ob = .loop st pe li)
theorem Fra.app (b : Nat) (h l : AH) : Fra b h (h ++ l) := ⟨by simp, fun i ob e => .inl (by rw [List.getElem?_append_left (List.getElem?_eq_some_iff.1 e).1]; exact e)⟩
theorem Fra.set {b i : Nat} {h : AH} {st : LoopState} {pe : Option Code} {li : LI} (hb : b ≤ i) (e : h[i]? = some (.loop st pe li)) (ob : AObj) : Fra b h (h.set i ob) := ⟨by simp, fun k o ek => by
  by_cases hk : i = k
  · subst hk; rw [e] at ek; cases ek; exact .inr ⟨hb, _, _, _, rfl⟩
  · exact .inl (by rw [List.getElem?_set_ne hk]; exact ek)⟩
theorem Fra.split {K j h' : AH} (hf : Fra K.length (K ++ j) h') : ∃ j', h' = K ++ j' ∧ j.length ≤ j'.length ∧ ∀ (i : Nat) (ob : AObj), j[i]? = some ob → j'[i]? = some ob ∨ ∃ st pe li, ob = .loop st pe li := by
  obtain ⟨h1, h2⟩ := hf
  rw [List.length_append] at h1
  have e : h'.take K.length = K := by
    refine List.ext_getElem? fun i => ?_
    rw [List.getElem?_take]
    split
    · rename_i hi
      rcases h2 i K[i] (by rw [List.getElem?_append_left hi]; exact List.getElem?_eq_getElem hi) with h | ⟨h, _⟩
      · rw [h, List.getElem?_eq_getElem hi]
      · omega
    · rename_i hi; rw [List.getElem?_eq_none (by omega)]
  refine ⟨h'.drop K.length, ?_, by simp; omega, fun i ob ei => ?_⟩
  · conv => rhs; lhs; rw [← e]
    rw [List.take_append_drop]
  · rw [List.getElem?_drop]
    rcases h2 (K.length + i) ob (by rw [List.getElem?_append_right (by omega), Nat.add_sub_cancel_left]; exact ei) with h | ⟨_, h⟩
    · exact .inl h
    · exact .inr h
/-- Objects made, no loops among them. -/
def AppNL (h h' : AH) : Prop := ∃ l, NoLoop l ∧ h' = h ++ l
theorem AppNL.fra {h h' : AH} (H : AppNL h h') (b : Nat) : Fra b h h' := by obtain ⟨l, _, rfl⟩ := H; exact .app b h l
/-- Who consumes the elements that a function yields, one after the other. -/
structure Consumer (P : Program) (Γ : Nat → Option (List AV)) (Cl : AH → AH → Prop) (L b : Nat) {α : Type} (enc : α → AV) (items : List α) (Inv : List α → AH → Prop) (Stp : AH → Prop) : Prop where
  inv : ∀ don h h', Inv don h → Cl h h' → Inv don h'
  stp : ∀ h h', Stp h → Cl h h' → Stp h'
  yl : ∀ don x r h, items = don ++ x :: r → b ≤ h.length → Inv don h → AYield P Γ L [enc x] h fun v h' => Kept b h h' ∧ ((v = .bool true ∧ Inv (don ++ [x]) h') ∨ (v = .bool false ∧ Stp h'))
section
variable {P : Program} {Γ : Nat → Option (List AV)} {h : AH} {w : World} {N : Nat} {σ : Tm} {Q : Exit → Tm → AH → Prop}
/-! ### Heaps about a range over a function -/
theorem Kept.mono {b b' : Nat} {h h' : AH} (K : Kept b h h') (hb : b ≤ b') : Kept b' h h' :=
  ⟨K.len, fun i c T hi => K.fn i c T (Nat.le_trans hb hi), fun i st pe li hi => K.lp i st pe li (Nat.le_trans hb hi), K.old⟩
theorem Kept.turn {b i : Nat} {h1 h2 : AH} {s0 s1 : LoopState} {p0 p1 : Option Code} {li : LI} (e1 : h1[i]? = some (.loop s0 p0 li)) (K : Kept b (h1.set i (.loop s1 p1 li)) h2) : Kept b h1 (h2.set i (.loop s0 p0 li)) := by
  have hi := (List.getElem?_eq_some_iff.1 e1).1
  have hl := K.len
  rw [List.length_set] at hl
  refine ⟨by simpa using hl, fun k c T hb hf e => ?_, fun k st pe li' hb => ?_, fun k st pe li' e => ?_⟩
  · have hki : k ≠ i := fun e' => by subst e'; rw [e1] at e; cases e
    rw [List.getElem?_set_ne (fun e' => hki e'.symm)]
    exact K.fn k c T hb hf (by rw [List.getElem?_set_ne (fun e' => hki e'.symm)]; exact e)
  · by_cases hki : k = i
    · subst hki; rw [List.getElem?_set_self (by omega), e1]
    · have := K.lp k st pe li' hb
      rw [List.getElem?_set_ne (fun e' => hki e'.symm)] at this
      rw [List.getElem?_set_ne (fun e' => hki e'.symm)]; exact this
  · by_cases hki : k = i
    · subst hki; exact ⟨_, _, _, e1⟩
    · rw [List.getElem?_set_ne (fun e' => hki e'.symm)] at e
      have := K.old k st pe li' e
      rwa [List.getElem?_set_ne (fun e' => hki e'.symm)] at this
theorem Kept.setB {b i : Nat} {h h' : AH} {s s0 : LoopState} {p p0 : Option Code} {li li0 : LI} (K : Kept b h h') (hi : i < b) (e : h[i]? = some (.loop s0 p0 li0)) : Kept b h (h'.set i (.loop s p li)) := by
  refine ⟨by simpa using K.len, fun k c T hb hf e => ?_, fun k st pe li' hb => ?_, fun k st pe li' ek => ?_⟩
  · rw [List.getElem?_set_ne (by omega)]; exact K.fn k c T hb hf e
  · rw [List.getElem?_set_ne (by omega)]; exact K.lp k st pe li' hb
  · by_cases hki : k = i
    · subst hki; exact ⟨_, _, _, e⟩
    · rw [List.getElem?_set_ne (fun e' => hki e'.symm)] at ek
      exact K.old k st pe li' ek
theorem Kept.setRow {b i : Nat} {h h' : AH} {cs : List AV} {T : TypeId} (K : Kept b h h') (hi : i < b) : Kept b h (h'.set i (.row cs T)) := by
  refine ⟨by simpa using K.len, fun k c T hb hf e => ?_, fun k st pe li' hb => ?_, fun k st pe li' ek => ?_⟩
  · rw [List.getElem?_set_ne (by omega)]; exact K.fn k c T hb hf e
  · rw [List.getElem?_set_ne (by omega)]; exact K.lp k st pe li' hb
  · by_cases hki : k = i
    · subst hki
      rw [List.getElem?_set] at ek
      simp only [if_true] at ek
      split at ek <;> cases ek
    · rw [List.getElem?_set_ne (fun e' => hki e'.symm)] at ek
      exact K.old k st pe li' ek
theorem Kept.endL {b : Nat} {h X h' : AH} {s : LoopState} {p : Option Code} {li : LI} (hX : NoLoop X) (K : Kept b (h ++ X ++ [.loop s p li]) h') : Kept b h (h'.set (h ++ X).length .dead) := by
  have hl := K.len
  simp only [List.length_append, List.length_cons, List.length_nil] at hl
  have hin : ∀ (k : Nat) (st : LoopState) (pe : Option Code) (li' : LI), k ≠ (h ++ X).length → ((h ++ X ++ [.loop s p li])[k]? = some (.loop st pe li') ↔ h[k]? = some (.loop st pe li')) := fun k st pe li' hk => by
    by_cases h1 : k < h.length
    · rw [List.append_assoc, List.getElem?_append_left h1]
    · constructor
      · intro e
        by_cases h2 : k < (h ++ X).length
        · rw [List.getElem?_append_left h2, List.getElem?_append_right (by omega)] at e
          exact absurd rfl (hX _ (List.mem_of_getElem? e) st pe li')
        · rw [List.getElem?_append_right (by omega), List.getElem?_eq_none (by simp at h2 hk ⊢; omega)] at e; cases e
      · intro e; rw [List.getElem?_eq_none (by omega)] at e; cases e
  refine ⟨by simp; omega, fun k c T hb hf e => ?_, fun k st pe li' hb => ?_, fun k st pe li' e => ?_⟩
  · have hk := (List.getElem?_eq_some_iff.1 e).1
    rw [List.getElem?_set_ne (by simp; omega)]
    exact K.fn k c T hb hf (by rw [List.append_assoc, List.getElem?_append_left hk]; exact e)
  · by_cases hki : k = (h ++ X).length
    · subst hki
      rw [List.getElem?_set_self (by simp; omega), List.getElem?_eq_none (by simp)]
      constructor <;> intro e <;> cases e
    · rw [List.getElem?_set_ne (fun e' => hki e'.symm), ← K.lp k st pe li' hb, hin k st pe li' hki]
  · by_cases hki : k = (h ++ X).length
    · subst hki
      rw [List.getElem?_set_self (by simp; omega)] at e; cases e
    · rw [List.getElem?_set_ne (fun e' => hki e'.symm)] at e
      obtain ⟨a1, a2, a3, e⟩ := K.old k st pe li' e
      exact ⟨_, _, _, (hin k _ _ _ hki).1 e⟩
/-- What the range asks for at its end. -/
theorem rangeN_post {hb h' : AH} {st : LoopState} {pe : Option Code} {li li0 : LI} (hL : h'[hb.length]? = some (.loop st pe li)) (hold : ∀ (i : Nat) (st : LoopState) (pe : Option Code) (li : LI), h'[i]? = some (.loop st pe li) → ∃ st0 pe0 lj, (hb ++ [.loop .ready none li0])[i]? = some (.loop st0 pe0 lj)) (hst : st ≠ .busy)
    (H : afterLoop P Γ N Q σ (h'.set hb.length .dead) pe) : ∃ h2 st pe l, h' = h2 ++ .loop st pe li :: l ∧ h2.length = hb.length ∧ (∀ (i : Nat) (st : LoopState) (pe : Option Code) (li : LI), (h2 ++ .dead :: l)[i]? = some (.loop st pe li) → ∃ st0 pe0 li0, hb[i]? = some (.loop st0 pe0 li0)) ∧ st ≠ .busy ∧ afterLoop P Γ N Q σ (h2 ++ .dead :: l) pe := by
  obtain ⟨hl, hg⟩ := List.getElem?_eq_some_iff.1 hL
  have e1 : h' = h'.take hb.length ++ .loop st pe li :: h'.drop (hb.length + 1) := by
    conv => lhs; rw [← List.take_append_drop hb.length h', List.drop_eq_getElem_cons hl, hg]
  have e2 : h'.set hb.length .dead = h'.take hb.length ++ .dead :: h'.drop (hb.length + 1) := List.set_eq_take_append_cons_drop .. |>.trans (by rw [if_pos hl])
  refine ⟨_, st, pe, _, e1, by simp; omega, fun i st' pe' li' e => ?_, hst, by rw [← e2]; exact H⟩
  rw [← e2] at e
  by_cases hi : i = hb.length
  · subst hi; rw [List.getElem?_set_self hl] at e; cases e
  · rw [List.getElem?_set_ne (fun e' => hi e'.symm)] at e
    obtain ⟨a1, a2, a3, e⟩ := hold i st' pe' li' e
    by_cases hlt : i < hb.length
    · rw [List.getElem?_append_left hlt] at e; exact ⟨_, _, _, e⟩
    · rw [List.getElem?_append_right (by omega), List.getElem?_eq_none (by simp; omega)] at e; cases e
end
end Go.Abs

/- Calls that may panic: what they leave, code in which they stand, rounds and functions that a panic goes through. It says nothing of any program; no conditions. -/
set_option linter.unusedSimpArgs false
set_option linter.unusedVariables false
namespace Go.Abs
open Go Go.RowKit

/-- One panic. -/
def pan (u : Value) : List PanicEntry := [{ v := u, recovered := false }]
/-- From B on nobody speaks of the objects any more. -/
def deadH (B : Nat) (h : AH) : AH := h.take B ++ List.replicate (h.length - B) .frozen
theorem deadH_len (B : Nat) (h : AH) : (deadH B h).length = h.length := by simp [deadH]; omega
theorem deadH_get {B i : Nat} {h : AH} (hi : i < B) : (deadH B h)[i]? = h[i]? := by
  unfold deadH
  by_cases hl : i < h.length
  · rw [List.getElem?_append_left (by simp; omega), List.getElem?_take, if_pos hi]
  · rw [List.getElem?_eq_none (by simp; omega), List.getElem?_eq_none (by omega)]
theorem deadH_ge {B i : Nat} {h : AH} {ob : AObj} (hi : B ≤ i) (e : (deadH B h)[i]? = some ob) : ob = .frozen := by
  unfold deadH at e
  rw [List.getElem?_append_right (by simp; omega), List.getElem?_replicate] at e
  split at e
  · cases e; rfl
  · cases e
theorem deadH_full (h : AH) : deadH h.length h = h := by simp [deadH]
section
variable {P : Program} {Γ : Nat → Option (List AV)} {G : Gh} {h : AH} {w : World} {N B : Nat} {σ : Tm} {Q : Exit → Tm → AH → Prop}

/-- Objects from B on are given up. -/
theorem Inv.kill (hI : Inv Γ G h w) (B : Nat) : Inv Γ G (deadH B h) w :=
  { hI with
    obj := fun i ob e => by
      by_cases hi : i < B
      · rw [deadH_get hi] at e; exact hI.obj i ob e
      · rw [deadH_ge (by omega) e]; trivial
    domρ := fun i b e => by rw [deadH_len]; exact hI.domρ i b e
    domA := fun i r e => by rw [deadH_len]; exact hI.domA i r e
    sep := fun i b o v hf e e' => by
      have hl := hI.domρ i b e
      by_cases hi : i < B
      · rw [deadH_get hi] at hf; exact hI.sep i b o v hf e e'
      · have hl' : i < (deadH B h).length := by rw [deadH_len]; exact hl
        have e2 : (deadH B h)[i]? = some (deadH B h)[i] := List.getElem?_eq_getElem hl'
        have := deadH_ge (by omega) e2
        rw [this] at e2
        exact absurd e2 hf }

/-- **What is left where a panic goes by**: the objects below B as they were, the others given up, what was made since gone. -/
theorem Inv.raise {G' : Gh} {h' : AH} {w' : World} (hI : Inv Γ G h w) (hle : G.le G') (hI' : Inv Γ G' h' w') (hl : h.length ≤ h'.length) (hp : ∀ i, i < B → h'[i]? = h[i]?) :
    ∃ G2, G.le G2 ∧ Inv Γ G2 (deadH B h) w' ∧ G2.lpD = G.lpD ∧ G2.ds = G'.ds := by
  have h1 := hI'.kill B
  have e : deadH B h' = deadH B h ++ (deadH B h').drop h.length := by
    conv => lhs; rw [← List.take_append_drop h.length (deadH B h')]
    congr 1
    refine List.ext_getElem? fun i => ?_
    rw [List.getElem?_take]
    split
    · rename_i hi
      by_cases hB : i < B
      · rw [deadH_get hB, deadH_get hB, hp i hB]
      · have a1 : i < (deadH B h').length := by rw [deadH_len]; omega
        have a2 : i < (deadH B h).length := by rw [deadH_len]; omega
        rw [List.getElem?_eq_getElem a1, List.getElem?_eq_getElem a2, deadH_ge (by omega) (List.getElem?_eq_getElem a1), deadH_ge (by omega) (List.getElem?_eq_getElem a2)]
    · rename_i hi
      rw [List.getElem?_eq_none (by rw [deadH_len]; omega)]
  rw [e] at h1
  have hlen : (deadH B h).length = h.length := deadH_len B h
  have h2 := h1.drop (fun i ob e => by
    rw [hlen]
    by_cases hi : i < B
    · rw [deadH_get hi] at e; exact hI.rbobj e
    · rw [deadH_ge (by omega) e]; trivial) (fun g cs e => by rw [hlen]; exact hI.rbglob g cs e)
  rw [hlen] at h2
  have hleC : G.le (G'.cut h.length) := Gh.le_cut hle hI.upTo
  have h3 := h2.relp G.lpD G'.ds (fun i st pe li b l e hρ hb hd => by
      by_cases hi : i < B
      · rw [deadH_get hi] at e
        obtain ⟨c, l', q1, q2, q3, q4, q5, q6, q7, q8, q9, q10⟩ := hI.obj i _ e
        have := hleC.ρ i c q1
        rw [hρ] at this; cases this
        have := hle.lpD _ _ q9
        rw [show (G'.cut h.length).lpD b = G'.lpD b from rfl] at hd
        rw [hd] at this
        rw [q9, this]
      · have := deadH_ge (by omega) e; cases this)
    (fun b D e => by
      obtain ⟨l, k1, k2, k3⟩ := hI'.lp b D (hle.lpD b D e)
      exact ⟨⟨l, k1, k2, k3⟩, hI'.lpB b D (hle.lpD b D e)⟩) hI'.dsI
  exact ⟨{ G'.cut h.length with lpD := G.lpD, ds := G'.ds }, ⟨hleC.w0, hleC.ρ, hleC.F, hleC.ar, fun _ _ e => e, hle.ds, fun b D e _ => ⟨b, e⟩⟩, h3, rfl, rfl⟩

/-! ### Contracts -/
/-- What a call leaves, seen abstractly: it returns, or panics. -/
def ResX (Γ : Nat → Option (List AV)) (G : Gh) (h : AH) (B : Nat) (R : AV → AH → Prop) (X : Value → Prop) (e : Ending) (w' : World) : Prop :=
  Res Γ G R e w' ∨ ∃ u G', e = .panicked (pan u) ∧ G.le G' ∧ Inv Γ G' (deadH B h) w' ∧ G'.lpD = G.lpD ∧ X u

/-- A function's contract, panics taken in: from B on objects may be lost in one. -/
def ACallsX (P : Program) (Γ : Nat → Option (List AV)) (B : Nat) (f : FuncId) (args : List AV) (h : AH) (R : AV → AH → Prop) (X : Value → Prop) : Prop :=
  (∀ vs w, (callFunc f vs).run P w = .ok (.enter f vs) w) ∧
  ∀ (G : Gh) (w : World) (vs : Array Value), Inv Γ G h w → VRs G args vs → Calls P f vs w (ResX Γ G h B R X)

/-- A call of a loop's own function 'yield', panics taken in. -/
def AYieldX (P : Program) (Γ : Nat → Option (List AV)) (B : Nat) (l : Nat) (args : List AV) (h : AH) (R : AV → AH → Prop) (X : Value → Prop) : Prop :=
  ∀ (G : Gh) (w : World) (vs : Array Value) (b : Nat), Inv Γ G h w → VRs G args vs → G.ρ l = some b →
    ∃ fn tmps assign body, (Instr.yield b vs).run P w = .ok (.round b fn tmps assign body) w ∧ ∀ r, RoundIn (Fr r) 0 P b fn tmps assign body w (ResX Γ G h B R X)

theorem ACallsX.of {f : FuncId} {args : List AV} {R : AV → AH → Prop} {X : Value → Prop} (H : ACalls P Γ f args h R) : ACallsX P Γ B f args h R X :=
  ⟨H.1, fun G w vs hI hv => (H.2 G w vs hI hv).mono fun _ _ h => .inl h⟩
theorem AYieldX.of {l : Nat} {args : List AV} {R : AV → AH → Prop} {X : Value → Prop} (H : AYield P Γ l args h R) : AYieldX P Γ B l args h R X := fun G w vs b hI hv hb => by
  obtain ⟨fn, tmps, assign, body, h1, h2⟩ := H G w vs b hI hv hb
  exact ⟨fn, tmps, assign, body, h1, fun r => (h2 r).mono fun _ _ h => .inl h⟩
theorem ResX.mono {R R' : AV → AH → Prop} {X X' : Value → Prop} {e : Ending} (hR : ∀ v h, R v h → R' v h) (hX : ∀ u, X u → X' u) (H : ResX Γ G h B R X e w) : ResX Γ G h B R' X' e w := by
  rcases H with H | ⟨u, G', h1, h2, h3, h4, h5⟩
  · exact .inl (H.mono hR (Gh.le.refl G))
  · exact .inr ⟨u, G', h1, h2, h3, h4, hX u h5⟩
theorem ACallsX.mono {f : FuncId} {args : List AV} {R R' : AV → AH → Prop} {X X' : Value → Prop} (H : ACallsX P Γ B f args h R X) (hR : ∀ v h, R v h → R' v h) (hX : ∀ u, X u → X' u) : ACallsX P Γ B f args h R' X' :=
  ⟨H.1, fun G w vs hI hv => (H.2 G w vs hI hv).mono fun _ _ => ResX.mono hR hX⟩
theorem AYieldX.mono {l : Nat} {args : List AV} {R R' : AV → AH → Prop} {X X' : Value → Prop} (H : AYieldX P Γ B l args h R X) (hR : ∀ v h, R v h → R' v h) (hX : ∀ u, X u → X' u) : AYieldX P Γ B l args h R' X' := fun G w vs b hI hv hb => by
  obtain ⟨fn, tmps, assign, body, h1, h2⟩ := H G w vs b hI hv hb
  exact ⟨fn, tmps, assign, body, h1, fun r => (h2 r).mono fun _ _ => ResX.mono hR hX⟩
/-- A call that is known to return is a call without panics. -/
theorem ACallsX.calm {f : FuncId} {args : List AV} {R : AV → AH → Prop} (H : ACallsX P Γ B f args h R fun _ => False) : ACalls P Γ f args h R :=
  ⟨H.1, fun G w vs hI hv => (H.2 G w vs hI hv).mono fun _ _ h => by
    rcases h with h | ⟨_, _, _, _, _, _, h⟩
    · exact h
    · exact h.elim⟩
/-- The words on what is returned turned. -/
theorem ACallsX.conv {f : FuncId} {args : List AV} {R R' : AV → AH → Prop} {X : Value → Prop} (H : ACallsX P Γ B f args h R X) (hc : ∀ (G : Gh) (w : World) (e : Ending) (w' : World), Inv Γ G h w → Res Γ G R e w' → Res Γ G R' e w') : ACallsX P Γ B f args h R' X :=
  ⟨H.1, fun G w vs hI hv => (H.2 G w vs hI hv).mono fun e w' hr => hr.imp (hc G w e w' hI) id⟩
theorem res_drop {R : AV → Prop} {e : Ending} {w' : World} (hI : Inv Γ G h w) (H : Res Γ G (fun v h' => (∃ l, h' = h ++ l) ∧ RB h.length v ∧ R v) e w') : Res Γ G (fun v h' => h' = h ∧ R v) e w' := by
  obtain ⟨v, G', av, h', rfl, h2, h3, h4, ⟨l, rfl⟩, h6, h7⟩ := H
  exact ⟨v, G'.cut h.length, av, h, rfl, Gh.le_cut h2 hI.upTo, h3.drop (fun i ob e => hI.rbobj e) hI.rbglob, h4.cut h6, rfl, h7⟩
/-- **A contract that leaves the heap as it was**, panics taken in. -/
theorem ACallsX.drop {f : FuncId} {args : List AV} {R : AV → Prop} {X : Value → Prop} (H : ACallsX P Γ B f args h (fun v h' => (∃ l, h' = h ++ l) ∧ RB h.length v ∧ R v) X) : ACallsX P Γ B f args h (fun v h' => h' = h ∧ R v) X :=
  H.conv fun _ _ _ _ hI hr => res_drop hI hr
theorem ACallsX.det {g : FuncId} {as : List AV} {R : AV → AH → Prop} {X : Value → Prop} {v : AV} (H : ACalls P Γ g as h fun v' h' => h' = h ∧ v' = v) (hR : R v h) : ACallsX P Γ B g as h R X := .of (H.det hR)
theorem ACallsX.ofLoose {f : FuncId} {as bs : List AV} {R : AV → AH → Prop} {X : Value → Prop} (H : ACallsX P Γ B f bs h R X) (e : looseL as = bs) : ACallsX P Γ B f as h R X :=
  ⟨H.1, fun G w vs hI hv => H.2 G w vs hI (by
    subst e
    refine ⟨by rw [looseL_map]; simpa using hv.1, fun j c e => ?_⟩
    rw [looseL_map, List.getElem?_map] at e
    obtain ⟨c0, h0, rfl⟩ := Option.map_eq_some_iff.1 e
    exact loose_VR (hv.2 j c0 h0))⟩

/-! ### Values that stand for one value -/
mutual
def exactV : AV → Option Value
  | .int k n => some (.int k n)
  | .bool b => some (.bool b)
  | .str s => some (.string s)
  | .iface t v => (exactV v).map (.iface t ·)
  | .agg cs => (exactL cs).map fun l => .agg l.toArray
  | _ => none
def exactL : List AV → Option (List Value)
  | [] => some []
  | a :: l => match exactV a, exactL l with
    | some v, some r => some (v :: r)
    | _, _ => none
end
theorem exactL_get : ∀ {l : List AV} {r : List Value}, exactL l = some r → l.length = r.length ∧ ∀ (j : Nat) (c : AV), l[j]? = some c → ∃ v, exactV c = some v ∧ r[j]? = some v
  | [], r, e => by simp [exactL] at e; subst e; simp
  | a :: l, r, e => by
    rw [exactL] at e
    split at e
    · rename_i v r' h1 h2
      cases e
      obtain ⟨k1, k2⟩ := exactL_get h2
      refine ⟨by simp [k1], fun j c ej => ?_⟩
      cases j with
      | zero => simp at ej; subst ej; exact ⟨v, h1, rfl⟩
      | succ j => exact k2 j c (by simpa using ej)
    · cases e
theorem exact_VR {a : AV} {u : Value} (h : VR G a u) : ∀ {v : Value}, exactV a = some v → u = v := by
  induction h with
  | int k n => intro v e; cases e; rfl
  | bool b => intro v e; cases e; rfl
  | str s => intro v e; cases e; rfl
  | iface t _ ih =>
    intro v e
    rw [exactV] at e
    obtain ⟨v', h1, rfl⟩ := Option.map_eq_some_iff.1 e
    rw [ih h1]
  | agg hl hv ih =>
    rename_i cs vals
    intro v e
    rw [exactV] at e
    obtain ⟨l, h1, rfl⟩ := Option.map_eq_some_iff.1 e
    obtain ⟨k1, k2⟩ := exactL_get h1
    congr 1
    refine Array.ext (by simp; omega) fun j hj1 hj2 => ?_
    obtain ⟨v, q1, q2⟩ := k2 j (cs[j]'(by omega)) (List.getElem?_eq_getElem (by omega))
    have := ih j _ (List.getElem?_eq_getElem (by omega)) q1
    rw [Array.getD_eq_getD_getElem?, Array.getElem?_eq_getElem hj1, Option.getD_some] at this
    rw [this]
    have : l[j]? = some (l.toArray[j]) := by simp
    rw [q2] at this; cases this; rfl
  | _ => intro v e; cases e

/-! ### Regions -/
theorem run_pan (t : TypeId) (v : Value) (w : World) : (Instr.panic (.iface t v)).run P w = .halt (.panic (.iface t v)) w := rfl
/-- A call, panics taken in. -/
def aCallVX (P : Program) (Γ : Nat → Option (List AV)) (B : Nat) (f : AV) (as : List AV) (h : AH) (R : AV → AH → Prop) (X : Value → Prop) : Prop := match f with
  | .func g first cap => ACallsX P Γ B g (first ++ as ++ cap) h R X
  | .yield l => AYieldX P Γ B l as h R X
  | _ => False
/-- How a panic of a call leaves the code. -/
def aRaise (Q : Exit → Tm → AH → Prop) (B : Nat) (σ : Tm) (h : AH) (u : Value) : Prop := Q (.panic (pan u)) σ (deadH B h)
/-- The text's own panic. -/
def aPan (x : AV) (K : Value → Prop) : Prop := match x with
  | .iface t v => (match exactV (.iface t v) with
    | some u => K u
    | none => False)
  | _ => False
def aPanQ (Q : Exit → Tm → AH → Prop) (σ : Tm) (h : AH) (u : Value) : Prop := Q (.panic (pan u)) σ h
/-- One operation, panics taken in. -/
def aOp1X (P : Program) (Γ : Nat → Option (List AV)) (B : Nat) (o : Oper) (K : AV → Tm → AH → Prop) (Q : Exit → Tm → AH → Prop) (σ : Tm) (h : AH) : Prop :=
  match o.op with
  | .call c => (match c.callee with
    | .value f => aCallVX P Γ B (ev Γ σ f) (c.args.toList.map (ev Γ σ)) h (aNext K σ) (aRaise Q B σ h)
    | _ => aOper P Γ o K σ h)
  | .panic x => aPan (ev Γ σ x) (aPanQ Q σ h)
  | _ => aOper P Γ o K σ h
/-- Operations in the order of the text, panics taken in. -/
def aOpsX (P : Program) (Γ : Nat → Option (List AV)) (B : Nat) (ops : List Oper) (Q : Exit → Tm → AH → Prop) : List Oper → Tm → AH → Prop
  | [], σ, h => Q .normal σ h
  | o :: rest, σ, h =>
    match o.guard with
    | none => aOp1X P Γ B o (fun v σ h => aOpsX P Γ B ops Q rest (put o.dst v σ) h) Q σ h
    | some (j, want) => aDst (dstAt ops j) fun t => aBoolG (lk σ t) want (aOp1X P Γ B o (fun v σ h => aOpsX P Γ B ops Q rest (put o.dst v σ) h) Q ((t, .bool want) :: σ) h)
        (aOpsX P Γ B ops Q rest (put o.dst (.tuple []) ((t, .bool (!want)) :: σ)) h) (aOpsX P Γ B ops Q rest (put o.dst (.tuple []) σ) h)

theorem aOp1X_ok {o : Oper} {K : AV → Tm → AH → Prop} (hI : Inv Γ G h w) {a : Act} (ht : TR N G σ a.tmps) (H : aOp1X P Γ B o K Q σ h) {r : Option Nat} {next : Act → World → Prop} {Q' : Exit → Act → World → Prop}
    (hn : ∀ u v G' h' w', G.le G' → Inv Γ G' h' w' → VR G' v u → K v σ h' → next (a.put o.dst u) w')
    (hX : ∀ u G' h' w', G.le G' → Inv Γ G' h' w' → Q (.panic (pan u)) σ h' → Q' (.panic (pan u)) a w') : o.wpIn (Fr r) 0 P a w next Q' := by
  unfold aOp1X at H
  split at H
  · rename_i c ho
    split at H
    · rename_i f hf
      refine ⟨fun _ _ => trivial, ?_⟩
      show o.uponIn (Fr r) 0 P a next Q' ((o.semAt r a.eval).run P w)
      have hfv := ev_VR hI ht f
      have hargs := evs_VR hI ht c.args
      rw [semAt_ok r a.eval o (fun c' e => by rw [ho] at e; cases e)]
      unfold aCallVX at H
      split at H
      · rename_i g first cap hg
        rw [hg] at hfv
        generalize hvf : a.eval f = vf at hfv
        cases hfv with
        | func h1 h2 h3 h4 =>
          rename_i vfirst vcap
          obtain ⟨henter, hcall⟩ := H
          have hrun : (execOp a.eval o).run P w = .ok (.enter g ((vfirst ++ c.args.map a.eval) ++ vcap)) w := by
            simp [execOp, ho, resolve, hf, hvf, Deferred.ofValue, invoke, henter]
          rw [hrun, Oper.uponIn_enter]
          refine ⟨fun e => by simp [Fr] at e, ?_⟩
          refine CallsIn.mono (callsIn_Fr.2 (hcall G w _ hI (VRs.append (VRs.append ⟨h1, h3⟩ hargs) ⟨h2, h4⟩))) fun e w' hr => ?_
          rcases hr with ⟨v, G', av, h', rfl, k1, k2, k3, k4⟩ | ⟨u, G', rfl, k1, k2, _, k3⟩
          · exact hn v av G' h' w' k1 k2 k3 k4
          · exact hX u G' _ w' k1 k2 k3
      · rename_i l hl
        rw [hl] at hfv
        generalize hvf : a.eval f = vf at hfv
        cases hfv with
        | @yield _ B hb =>
          obtain ⟨fn, tmps, assign, body, hy, hround⟩ := H G w _ _ hI hargs hb
          have hrun : (execOp a.eval o).run P w = .ok (.round B fn tmps assign body) w := by
            simp [execOp, ho, resolve, hf, hvf, Deferred.ofValue, invoke, hy]
          rw [hrun, Oper.uponIn_round]
          refine ⟨fun e => by simp [Fr] at e, RoundIn.mono (hround r) fun e w' hr => ?_⟩
          rcases hr with ⟨v, G', av, h', rfl, k1, k2, k3, k4⟩ | ⟨u, G', rfl, k1, k2, _, k3⟩
          · exact hn v av G' h' w' k1 k2 k3 k4
          · exact hX u G' _ w' k1 k2 k3
      · exact H.elim
    · exact aOper_ok hI ht H hn
  · rename_i x ho
    refine ⟨fun _ _ => trivial, ?_⟩
    show o.uponIn (Fr r) 0 P a next Q' ((o.semAt r a.eval).run P w)
    rw [semAt_ok r a.eval o (fun c' e => by rw [ho] at e; cases e)]
    have hx := ev_VR hI ht x
    unfold aPan at H
    split at H
    · rename_i t v hv
      split at H
      · rename_i u hu
        rw [hv] at hx
        have e := exact_VR hx hu
        generalize hvx : a.eval x = vx at hx e
        cases hx with
        | iface _ hx =>
          have hrun : (execOp a.eval o).run P w = .halt (.panic u) w := by
            rw [← e]
            simp [execOp, ho, hvx, run_pan, Result.andThen]
          rw [hrun, Oper.uponIn_panic]
          exact hX u G h w (Gh.le.refl G) hI H
      · exact H.elim
    · exact H.elim
  · exact aOper_ok hI ht H hn

theorem aOpsX_ok {ops : Array Oper} {G0 : Gh} {ds : List Deferred} {r : Option Nat} : ∀ (l : List Nat) (σ : Tm) (h : AH) (G : Gh) (w : World) (a : Act), (∀ i ∈ l, ∀ o, ops[i]? = some o → ∀ x, o.dst = some x → x < N) →
    G0.le G → Inv Γ G h w → TR N G σ a.tmps → a.defers = ds → aOpsX P Γ B ops.toList Q (l.filterMap (ops[·]?)) σ h → wpOpsIn (Fr r) 0 P ops (Post Γ N G0 ds Q) l a w := by
  intro l
  induction l with
  | nil =>
    intro σ h G w a _ hle hI ht hd H
    exact ⟨G, σ, h, [], hle, hI, ht, by simpa using hd, fun D hD => by simp at hD, List.nodup_nil, H⟩
  | cons i rest ih =>
    intro σ h G w a hdst hle hI ht hd H
    rw [wpOpsIn_cons]
    unfold wpOpIn
    cases ho : ops[i]? with
    | none =>
      simp only [List.filterMap_cons, ho] at H
      exact ih σ h G w a (fun j hj => hdst j (List.mem_cons_of_mem _ hj)) hle hI ht hd H
    | some o =>
      simp only [List.filterMap_cons, ho] at H
      have hdo := hdst i (List.mem_cons_self ..) o ho
      have run : ∀ σ, TR N G σ a.tmps → aOp1X P Γ B o (fun v σ h => aOpsX P Γ B ops.toList Q (rest.filterMap (ops[·]?)) (put o.dst v σ) h) Q σ h → o.wpIn (Fr r) 0 P a w (wpOpsIn (Fr r) 0 P ops (Post Γ N G0 ds Q) rest) (Post Γ N G0 ds Q) := fun σ ht H =>
        aOp1X_ok hI ht H (fun u v G' h' w' h1 h2 h3 h4 =>
          ih _ h' G' w' _ (fun j hj => hdst j (List.mem_cons_of_mem _ hj)) (hle.trans h1) h2 ((ht.mono h1).put hdo h3) ((put_defers a o.dst u).trans hd) h4)
          (fun u G' h' w' h1 h2 h3 => ⟨G', σ, h', [], hle.trans h1, h2, ht.mono h1, by simpa using hd, fun D hD => by simp at hD, List.nodup_nil, h3⟩)
      have pass : ∀ σ, TR N G σ a.tmps → aOpsX P Γ B ops.toList Q (rest.filterMap (ops[·]?)) (put o.dst (.tuple []) σ) h → (∀ f, o.about P w a.eval = some f → (Fr r).fn f) ∧ wpOpsIn (Fr r) 0 P ops (Post Γ N G0 ds Q) rest (a.put o.dst undef) w := fun σ ht H => by
        exact ⟨fun _ _ => trivial, ih _ h G w _ (fun j hj => hdst j (List.mem_cons_of_mem _ hj)) hle hI (ht.put hdo (VR.undef G)) ((put_defers a o.dst undef).trans hd) H⟩
      simp only [aOpsX] at H
      unfold Region.wanted
      split at H
      · rename_i hg
        simp only [hg, if_true]
        exact run σ ht H
      · rename_i j want hg
        simp only [hg]
        unfold aDst at H
        split at H
        · rename_i t hj
          rw [dstAt_eq, Array.getElem?_toList] at hj
          rcases aBoolG_inv H with ⟨b, hb, H1, H2⟩ | ⟨hb, H⟩
          · rw [yielded_ok ht hj hb]
            by_cases hbw : b = want
            · subst hbw; simp only [beq_self_eq_true, if_true]; exact run _ (ht.same hb) (H1 rfl)
            · have : (some b == some want) = false := by cases b <;> cases want <;> simp_all
              simp only [this, Bool.false_eq_true, if_false]
              have hbn : b = !want := by cases b <;> cases want <;> simp_all
              exact pass _ (ht.same (hb.trans (by rw [hbn]))) (H2 hbn)
          · rw [yielded_none ht hj hb]
            have : ((none : Option Bool) == some want) = false := rfl
            simp only [this, Bool.false_eq_true, if_false]
            exact pass _ ht H
        · exact H.elim

/-- **A region whose order is fixed**, panics taken in. -/
theorem awp_regionX {id : Nat} {ops : Array Oper} (hd : dstOK N ops = true) (H : aOpsX P Γ B ops.toList Q ops.toList σ h) : AWP P Γ N (.region id ops false) Q σ h := fun r G w a hr hI ht =>
  wpIn_region (aOpsX_ok (List.range ops.size) σ h G w a (fun i _ o ho x hx => by
    have := List.all_eq_true.1 hd o (by simpa using Array.mem_of_getElem? ho)
    rw [hx] at this
    exact Nat.le_of_ble_eq_true this) (Gh.le.refl G) hI ht rfl (by rw [filterMap_range]; exact H))
/-! ### Code in the frames of one function -/
theorem fenced_Fr {r : Option Nat} (m : Machine) : m.fenced P (Fr r) := fun g _ => ⟨fun h => by simp [Fr] at h, .inl trivial, fun _ _ => trivial, fun _ h => by simp [Fr] at h⟩
def wpB (P : Program) (f0 : FuncId) (r : Option Nat) (c : Code) (Q : Exit → Act → World → Prop) (a : Act) (w : World) : Prop :=
  ∀ (b : Frame) (k : List Item) (cs : List Frame), b.roundOf = r → b.fn = f0 → ∃ e a' w', Q e a' w' ∧ ArrivesIn (Machine.fenced P (Fr r)) P (lone (b.atR a (.code c :: k)) cs w) b k cs e a' w'
section
variable {f0 : FuncId} {r : Option Nat} {QW : Exit → Act → World → Prop} {a : Act}
theorem wpB_of {c : Code} (H : c.wpIn (Fr r) 0 P QW a w) : wpB P f0 r c QW a w := fun b k cs hro _ => H b k cs hro trivial (fun _ h => by simp [Fr] at h)
theorem wpB_mono {c : Code} {Q' : Exit → Act → World → Prop} (H : wpB P f0 r c QW a w) (hq : ∀ e a w, QW e a w → Q' e a w) : wpB P f0 r c Q' a w := fun b k cs hro hf => by
  obtain ⟨e, a', w', h1, h2⟩ := H b k cs hro hf
  exact ⟨e, a', w', hq _ _ _ h1, h2⟩
theorem wpB_seq {x y : Code} (H : wpB P f0 r x (Exit.then (wpB P f0 r y QW) QW) a w) : wpB P f0 r (.seq x y) QW a w := by
  intro b k cs hro hf
  obtain ⟨e, a1, w1, hq, har⟩ := H b (.code y :: k) cs hro hf
  cases e with
  | normal =>
    obtain ⟨e2, a2, w2, hq2, har2⟩ := hq b k cs hro hf
    exact ⟨e2, a2, w2, hq2, .of_steps (.head (fenced_Fr _) stepR_seq har) har2⟩
  | _ => exact ⟨_, a1, w1, hq, .of_steps (.one (fenced_Fr _) stepR_seq) (.pass (x := .code y) rfl (fun _ _ => .inl (by simp)) har)⟩
theorem wpB_cond {c : Operand} {x y : Code} {t : Bool} (hc : a.eval c = .bool t) (H : wpB P f0 r (if t then x else y) QW a w) : wpB P f0 r (.cond c x y) QW a w := fun b k cs hro hf => by
  obtain ⟨e, a', w', h1, h2⟩ := H b k cs hro hf
  exact ⟨e, a', w', h1, .of_steps (.one (fenced_Fr _) (stepR_cond hc)) h2⟩
theorem wpB_block {id : Nat} {c : Code} (H : wpB P f0 r c (Exit.inBlock id QW) a w) : wpB P f0 r (.block id c) QW a w := by
  intro b k cs hro hf
  obtain ⟨e, a1, w1, hq, har⟩ := H b (.inBlock id :: k) cs hro hf
  cases e with
  | normal => exact ⟨.normal, a1, w1, hq, .head (fenced_Fr _) stepR_block (StepsIn.trans har (.one (fenced_Fr _) stepR_inBlock))⟩
  | exit id' =>
    by_cases hid : id' = id
    · simp only [Exit.inBlock, hid, if_true] at hq
      exact ⟨.normal, a1, w1, hq, .head (fenced_Fr _) stepR_block (har.1 k (by simp [exitTo, hid]))⟩
    · simp only [Exit.inBlock, hid, if_false] at hq
      have this : (id == id') = false := by simp; exact fun h => hid h.symm
      have hx : exitTo id' (.inBlock id :: k) = exitTo id' k := by simp [exitTo, this]
      exact ⟨.exit id', a1, w1, hq, fun k' hk => .head (fenced_Fr _) stepR_block (har.1 k' (by rw [hx]; exact hk)), fun hr' hk => by
        obtain ⟨k1, h1, h2⟩ := har.2 hr' (by rw [hx]; exact hk)
        exact ⟨k1, h1, .head (fenced_Fr _) stepR_block h2⟩⟩
  | goto l =>
    have hx : gotoIn l (.inBlock id :: k) = gotoIn l k := by simp [gotoIn]
    exact ⟨_, a1, w1, hq, fun k' hk => .head (fenced_Fr _) stepR_block (har.1 k' (by rw [hx]; exact hk)), fun hr' hk => by
      obtain ⟨k1, h1, h2⟩ := har.2 hr' (by rw [hx]; exact hk)
      exact ⟨k1, h1, .head (fenced_Fr _) stepR_block h2⟩⟩
  | _ => exact ⟨_, a1, w1, hq, .of_steps (.one (fenced_Fr _) stepR_block) har⟩
theorem wpB_loop {c : Code} (I : Nat → Act → World → Prop) {n : Nat} (h0 : I n a w) (round : ∀ n a w, I n a w → wpB P f0 r c (Exit.then (fun a' w' => ∃ j, j < n ∧ I j a' w') QW) a w) : wpB P f0 r (.loop c) QW a w := by
  intro b k cs hro hf
  have key : ∀ n a w, I n a w → ∃ e a' w', QW e a' w' ∧ ArrivesIn (Machine.fenced P (Fr r)) P (lone (b.atR a (.code c :: .inLoop c :: k)) cs w) b k cs e a' w' := by
    intro n
    induction n using Nat.strongRecOn with
    | _ n ih =>
      intro a w hI
      obtain ⟨e, a1, w1, hq, har⟩ := round n a w hI b (.inLoop c :: k) cs hro hf
      cases e with
      | normal =>
        obtain ⟨j, hlt, hI1⟩ := hq
        obtain ⟨e2, a2, w2, hq2, har2⟩ := ih j hlt a1 w1 hI1
        exact ⟨e2, a2, w2, hq2, .of_steps (StepsIn.trans har (.one (fenced_Fr _) stepR_inLoop)) har2⟩
      | _ => exact ⟨_, a1, w1, hq, .pass (x := .inLoop c) rfl (fun _ _ => .inl (by simp)) har⟩
  obtain ⟨e, a', w', hq, har⟩ := key n a w h0
  exact ⟨e, a', w', hq, .of_steps (.one (fenced_Fr _) stepR_loop) har⟩
/-- A range over a function, in a frame of function f0. -/
theorem wpB_rangeFunc {g : Operand} {ps : Array Tmp} {assign body : Code}
    (H : ∃ (l : Nat) (mark : List Deferred) (w1 : World) (d : Deferred) (w2 : World) (f : FuncId) (args : Array Value) (w3 : World),
      (Instr.enterLoop f0 a.tmps ps assign body r).run P w = .ok (l, mark) w1 ∧ (resolve a.eval (rangeCall g l) 0).run P w1 = .ok d w2 ∧ (invoke d.target d.args).run P w2 = .ok (.enter f args) w3 ∧
      CallsIn (Fr r) 0 P f args w3 (rangePost (Fr r) 0 P l QW { a with defers := mark ++ a.defers })) : wpB P f0 r (.rangeFunc g ps assign body) QW a w := by
  intro b k cs hro hf
  obtain ⟨l, mark, w1, d, w2, f, args, w3, he, hres, hinv, _, hcall⟩ := H
  rw [← hro, ← hf] at he
  have henter := stepR_rangeFunc (P := P) (b := b) (a := a) (k := k) (cs := cs) (w := w) he hres hinv
  obtain ⟨e, w4, fr, hR, hsteps, hfn, hleave⟩ := hcall (b.atR { a with defers := mark ++ a.defers } (.inRangeFunc l :: k) :: cs) (fun _ h => by simp [Fr] at h)
  cases e with
  | outgrown =>
    obtain ⟨a0, w0, hq⟩ := hR
    exact ⟨.outgrown, a0, w0, hq, .inr (Outgrown.of_steps (.one henter) hsteps)⟩
  | returned v =>
    obtain ⟨jump, w5, hend, hj⟩ := hR
    have sback : StepsIn (Machine.fenced P (Fr r)) P (lone (b.atR a (.code (.rangeFunc g ps assign body) :: k)) cs w) (lone (b.atR { a with defers := mark ++ a.defers } ((jump.map Item.code).toList ++ k)) cs w5) := by
      refine .head (fenced_Fr _) henter (StepsIn.trans hsteps (.head (fenced_Fr _) ?_ (.one (fenced_Fr _) (stepR_endRangeFunc hend))))
      rw [← finish_atR_inRangeFunc l v]; exact step_leave_returned hleave
    cases jump with
    | none => exact ⟨.normal, _, w5, hj, sback⟩
    | some c =>
      obtain ⟨e', a'', w6, hq, har⟩ := hj b k cs hro trivial (fun _ h => by simp [Fr] at h)
      exact ⟨e', a'', w6, hq, .of_steps sback har⟩
  | panicked chain =>
    refine ⟨.panic chain, _, w4, hR, .inRangeFunc l :: k, .head (fenced_Fr _) henter (StepsIn.trans hsteps (.one (fenced_Fr _) ?_))⟩
    rw [← Frame.raise_atR]; exact step_leave_panicked hleave

/-- A frame that a panic goes through: marks are taken off, and the panic goes on. -/
def passes (P : Program) (R : Ending → World → Prop) (chain : List PanicEntry) : List Deferred → World → Prop
  | [], w => R (.panicked chain) w
  | d :: ds, w => ∃ D w', d.target = .collected D ∧ (Instr.takeDeferred D).run P w = .ok [] w' ∧ passes P R chain ds w'
theorem passes_steps {R : Ending → World → Prop} {chain : List PanicEntry} {c : Frame} {cs : List Frame} {fn : Func} : ∀ (ds : List Deferred) (w : World) (fr : Frame), fr.mode = .panicking chain → fr.defers = ds → P.funcs[fr.fn]? = some fn → passes P R chain ds w →
    ∃ w', R (.panicked chain) w' ∧ StepsIn (Machine.fenced P (Fr r)) P (lone fr (c :: cs) w) (lone (c.raise chain) cs w')
  | [], w, fr, hm, hd, hf, H => ⟨w, H, .one (fenced_Fr _) (step_leave_panicked ⟨hm, hd, fn, hf⟩)⟩
  | d :: ds, w, fr, hm, hd, hf, ⟨D, w', h1, h2, h3⟩ => by
    obtain ⟨w'', k1, k2⟩ := passes_steps ds w' { fr with defers := [] ++ ds } hm rfl hf h3
    exact ⟨w'', k1, .head (fenced_Fr _) (step_collected (by rw [hm]; simp) hd h1 h2) k2⟩
/-- What is asked at a round's end, panics taken in. -/
def roundPostB (P : Program) (l : Nat) (R : Ending → World → Prop) : Exit → Act → World → Prop
  | .panic chain, a, w => passes P R chain a.defers w
  | e, a, w => roundPost P l R e a w
theorem roundIn_of_wpB {l : Nat} {fn : Func} {tmps : Array Value} {assign body : Code} {R : Ending → World → Prop} (hf : P.funcs[f0]? = some fn)
    (H : wpB P f0 (some l) assign (Exit.then (fun a1 w1 => ∃ w2, (Instr.beginRound l).run P w1 = .ok () w2 ∧ wpB P f0 (some l) body (roundPostB P l R) a1 w2) (fun _ _ _ => False)) { tmps := tmps, defers := [] } w) :
    RoundIn (Fr r) 0 P l f0 tmps assign body w R := by
  refine ⟨trivial, fun c cs _ => ?_⟩
  let b : Frame := { (default : Frame) with fn := f0, kind := .normal, roundOf := some l }
  have hb0 : Frame.round l f0 tmps assign body .normal = b.atR { tmps := tmps, defers := [] } [.code assign, .beginRound, .code body] := by
    simp [Frame.round, Frame.atR, b]
  obtain ⟨e, a1, w1, hq, har⟩ := H b [.beginRound, .code body] (c :: cs) rfl rfl
  rw [← hb0] at har
  have har : ArrivesIn (Machine.fenced P (Fr r)) P (lone (Frame.round l f0 tmps assign body .normal) (c :: cs) w) b [.beginRound, .code body] (c :: cs) e a1 w1 := har
  cases e with
  | normal =>
    obtain ⟨w2, hbr, hbody⟩ := hq
    have s1 : StepsIn (Machine.fenced P (Fr r)) P (lone (b.atR a1 [.beginRound, .code body]) (c :: cs) w1) (lone (b.atR a1 [.code body]) (c :: cs) w2) := .one (fenced_Fr _) (stepR_beginRound rfl hbr)
    obtain ⟨e2, a2, w3, hq2, har2⟩ := hbody b [] (c :: cs) rfl rfl
    have har2 : ArrivesIn (Machine.fenced P (Fr r)) P (lone (b.atR a1 [.code body]) (c :: cs) w2) b [] (c :: cs) e2 a2 w3 := har2
    cases e2 with
    | normal =>
      obtain ⟨v, w4, hend, hR⟩ := hq2
      exact ⟨.returned v, w4, hR, (StepsIn.trans har s1).trans (StepsIn.trans har2 (.one (fenced_Fr _) (stepR_round_end rfl rfl hend)))⟩
    | ret =>
      obtain ⟨v, w4, hend, hR⟩ := hq2
      obtain ⟨k1, hs⟩ := har2.2 rfl
      exact ⟨.returned v, w4, hR, (StepsIn.trans har s1).trans (StepsIn.trans hs (.one (fenced_Fr _) (stepR_round_ret rfl rfl hend)))⟩
    | exit id =>
      obtain ⟨v, w4, hend, hR⟩ := hq2
      obtain ⟨k1, hk, hs⟩ := har2.2 rfl rfl
      exact ⟨.returned v, w4, hR, (StepsIn.trans har s1).trans (StepsIn.trans hs (.one (fenced_Fr _) (stepR_round_exit rfl rfl hk hend)))⟩
    | goto t =>
      obtain ⟨v, w4, hend, hR⟩ := hq2
      obtain ⟨k1, hk, hs⟩ := har2.2 rfl rfl
      exact ⟨.returned v, w4, hR, (StepsIn.trans har s1).trans (StepsIn.trans hs (.one (fenced_Fr _) (stepR_round_goto rfl rfl hk hend)))⟩
    | panic chain =>
      obtain ⟨todo, hs⟩ := har2
      obtain ⟨w4, k1, k2⟩ := passes_steps (r := r) (c := c) (cs := cs) a2.defers w3 { b.atR a2 todo with mode := .panicking chain } rfl rfl hf hq2
      exact ⟨.panicked chain, w4, k1, (StepsIn.trans har s1).trans (StepsIn.trans hs k2)⟩
    | outgrown => exact hq2.elim
  | _ => exact hq.elim
/-- A function's contract from its body, in its own frames. -/
theorem callsIn_of_wpB {fn : Func} {c : Code} {args : Array Value} {R : Ending → World → Prop} (hf : P.funcs[f0]? = some fn) (hb : fn.body = some c)
    (H : wpB P f0 none c (bodyPostM (Fr none) 0 P fn R) { tmps := args ++ Array.replicate (fn.ntmps - args.size) undef, defers := [] } w) : CallsIn (Fr none) 0 P f0 args w R := by
  refine ⟨trivial, fun cs hr => ?_⟩
  let b : Frame := { (default : Frame) with fn := f0, kind := .normal, roundOf := none }
  have henter : Frame.enter P f0 args .normal = b.atR { tmps := args ++ Array.replicate (fn.ntmps - args.size) undef, defers := [] } [.code c] := by
    simp [Frame.enter, Frame.atR, hf, hb, b]
  obtain ⟨e, a', w', hq, har⟩ := H b [] cs rfl rfl
  rw [← henter] at har
  have fin : ∀ (u : FrameMode) (todo : List Item), LeavesInM (Fr none) 0 P fn a'.tmps R a'.defers u w' → StepsIn (Machine.fenced P (Fr none)) P (lone (Frame.enter P f0 args .normal) cs w) (lone { b.atR a' todo with mode := u } cs w') →
      ∃ e w'' fr', R e w'' ∧ ComesIn (Machine.fenced P (Fr none)) P (lone (Frame.enter P f0 args .normal) cs w) (lone fr' cs w'') e ∧ fr'.fn = f0 ∧ fr'.leaving P w'' e := fun u todo hL hs => by
    obtain ⟨e', w'', fr', hR, hs', hfn, hl⟩ := leaves_stepsInM a'.defers u w' { b.atR a' todo with mode := u } cs rfl rfl rfl hf rfl trivial hr hL
    exact ⟨e', w'', fr', hR, ComesIn.of_steps hs hs', hfn, hl⟩
  cases e with
  | normal => exact fin .returning [] hq (StepsIn.trans har (.one (fenced_Fr _) (stepR_end rfl)))
  | ret => obtain ⟨todo, hs⟩ := har.1 rfl; exact fin .returning todo hq hs
  | panic chain => obtain ⟨todo, hs⟩ := har; exact fin (.panicking chain) todo hq hs
  | exit id => exact hq.elim
  | goto l => exact hq.elim
  | outgrown => exact ⟨.outgrown, w', b, hq, har.resolve_left (by simp [b]), rfl, trivial⟩
end
end
end Go.Abs

/- Code through which panics go, seen abstractly; rounds, ranges, functions. It says nothing of any program; no conditions. -/
set_option linter.unusedSimpArgs false
set_option linter.unusedVariables false
namespace Go.Abs
open Go Go.RowKit

section
variable {P : Program} {Γ : Nat → Option (List AV)} {G : Gh} {h : AH} {w : World} {N B : Nat} {σ : Tm} {Q : Exit → Tm → AH → Prop} {f0 : FuncId}

/-- A piece of code in the frames of one function, seen abstractly. -/
def BWP (P : Program) (Γ : Nat → Option (List AV)) (f0 : FuncId) (N : Nat) (c : Code) (Q : Exit → Tm → AH → Prop) (σ : Tm) (h : AH) : Prop :=
  ∀ (r : Option Nat) (G : Gh) (w : World) (a : Act), (∀ l, r = some l → ∃ D, G.lpD l = some D) → Inv Γ G h w → TR N G σ a.tmps → wpB P f0 r c (Post Γ N G a.defers Q) a w

theorem BWP.of {c : Code} (H : AWP P Γ N c Q σ h) : BWP P Γ f0 N c Q σ h := fun r G w a hr hI ht => wpB_of (H r G w a hr hI ht)
theorem BWP.mono {c : Code} {Q' : Exit → Tm → AH → Prop} (H : BWP P Γ f0 N c Q σ h) (hQ : ∀ e σ h, Q e σ h → Q' e σ h) : BWP P Γ f0 N c Q' σ h :=
  fun r G w a h1 h2 h3 => wpB_mono (H r G w a h1 h2 h3) fun _ _ _ => Post.mono hQ
theorem BWP.after {c : Code} (H : BWP P Γ f0 N c Q σ h) {r : Option Nat} {G0 : Gh} {ds : List Deferred} {Ds : List Nat} (hr : ∀ l, r = some l → ∃ D, G0.lpD l = some D) (hle : G0.le G)
    (hDs : ∀ D ∈ Ds, ¬ G0.ds D ∧ G.ds D ∧ ∀ b, G.lpD b ≠ some D) (hnd : Ds.Nodup) (hI : Inv Γ G h w) {a : Act} (ht : TR N G σ a.tmps) (hd : a.defers = Ds.map mark ++ ds) : wpB P f0 r c (Post Γ N G0 ds Q) a w :=
  wpB_mono (H r G w a (fun l e => by obtain ⟨D, k⟩ := hr l e; exact ⟨D, hle.lpD _ _ k⟩) hI ht) fun e a' w' hp => by rw [hd] at hp; exact hp.trans hle hDs hnd
theorem bwp_seq {x y : Code} (H : BWP P Γ f0 N x (thenA (BWP P Γ f0 N y Q) Q) σ h) : BWP P Γ f0 N (.seq x y) Q σ h := fun r G w a hr hI ht => by
  refine wpB_seq (wpB_mono (H r G w a hr hI ht) fun e a' w' hp => ?_)
  cases e with
  | normal =>
    obtain ⟨G', σ', h', Ds, h1, h2, h3, h4, h5, h6, h7⟩ := hp
    exact BWP.after h7 hr h1 h5 h6 h2 h3 h4
  | _ => exact hp
theorem bwp_cond {c : Operand} {x y : Code} {b : Bool} (hc : ev Γ σ c = .bool b) (h1 : b = true → BWP P Γ f0 N x Q σ h) (h2 : b = false → BWP P Γ f0 N y Q σ h) : BWP P Γ f0 N (.cond c x y) Q σ h := fun r G w a hr hI ht => by
  have hv := ev_VR hI ht c
  rw [hc] at hv
  have hb : a.eval c = .bool b := by
    generalize a.eval c = vc at hv
    cases hv; rfl
  refine wpB_cond hb ?_
  cases b with
  | true => exact h1 rfl r G w a hr hI ht
  | false => exact h2 rfl r G w a hr hI ht
theorem bwp_block {id : Nat} {c : Code} (H : BWP P Γ f0 N c (blockA id Q) σ h) : BWP P Γ f0 N (.block id c) Q σ h := fun r G w a hr hI ht => by
  refine wpB_block (wpB_mono (H r G w a hr hI ht) fun e a' w' hp => ?_)
  cases e with
  | exit id' =>
    show if id' = id then _ else _
    obtain ⟨G', σ', h', Ds, h1, h2, h3, h4, h5, h6, h7⟩ := hp
    simp only [blockA] at h7
    split
    · rename_i he; rw [if_pos he] at h7; exact ⟨G', σ', h', Ds, h1, h2, h3, h4, h5, h6, h7⟩
    · rename_i he; rw [if_neg he] at h7; exact ⟨G', σ', h', Ds, h1, h2, h3, h4, h5, h6, h7⟩
  | _ => exact hp
theorem bwp_loop {c : Code} (I : Nat → Tm → AH → Prop) {n : Nat} (h0 : I n σ h) (H : ∀ n σ h, I n σ h → BWP P Γ f0 N c (roundA I n Q) σ h) : BWP P Γ f0 N (.loop c) Q σ h := fun r G w a hr hI ht => by
  refine wpB_loop (fun n a' w' => Post Γ N G a.defers (fun _ σ h => I n σ h) .normal a' w') (Post.now hI ht h0) fun n a' w' hp => ?_
  obtain ⟨G', σ', h', Ds, h1, h2, h3, h4, h5, h6, h7⟩ := hp
  refine wpB_mono (BWP.after (H n σ' h' h7) hr h1 h5 h6 h2 h3 h4) fun e a'' w'' hp => ?_
  cases e with
  | normal =>
    obtain ⟨G', σ', h', Ds, h1, h2, h3, h4, h5, h6, m, hm, h7⟩ := hp
    exact ⟨m, hm, G', σ', h', Ds, h1, h2, h3, h4, h5, h6, h7⟩
  | _ => exact hp
theorem BWP.weaken {c : Code} {σ' : Tm} (H : BWP P Γ f0 N c Q σ' h) (hw : ∀ i, lk σ' i = lk σ i ∨ lk σ' i = .top) : BWP P Γ f0 N c Q σ h := fun r G w a hr hI ht =>
  H r G w a hr hI ⟨ht.1, fun i => by
    rcases hw i with e | e
    · rw [e]; exact ht.2 i
    · rw [e]; exact .top _⟩
theorem BWP.wks {c : Code} {σ' : Tm} (H : BWP P Γ f0 N c Q σ' h) (hw : Wkt σ σ') : BWP P Γ f0 N c Q σ h := fun r G w a hr hI ht => H r G w a hr hI ⟨ht.1, fun i => hw G i _ (ht.2 i)⟩
theorem BWP.keep {c : Code} (L : List Nat) (H : BWP P Γ f0 N c Q (keep L σ) h) : BWP P Γ f0 N c Q σ h := H.weaken (lk_keep L σ)

/-! ### Code reckoned as a whole -/
/-- A function's code reckoned up to its loops, panics taken in. -/
def bCode (P : Program) (Γ : Nat → Option (List AV)) (f0 : FuncId) (B N : Nat) : Code → (Exit → Tm → AH → Prop) → Tm → AH → Prop
  | .skip, Q, σ, h => Q .normal σ h
  | .label _, Q, σ, h => Q .normal σ h
  | .exit id, Q, σ, h => Q (.exit id) σ h
  | .goto l, Q, σ, h => Q (.goto l) σ h
  | .ret, Q, σ, h => Q .ret σ h
  | .region _ ops false, Q, σ, h => aOpsX P Γ B ops.toList Q ops.toList σ h
  | .region id ops true, Q, σ, h => BWP P Γ f0 N (.region id ops true) Q σ h
  | .seq x y, Q, σ, h => bCode P Γ f0 B N x (thenA (fun σ h => bif stops x then BWP P Γ f0 N y Q σ h else bCode P Γ f0 B N y Q σ h) Q) σ h
  | .cond c x y, Q, σ, h => aBool (ev Γ σ c) true (bCode P Γ f0 B N x Q σ h) (bCode P Γ f0 B N y Q σ h)
  | .block id c, Q, σ, h => bCode P Γ f0 B N c (blockA id Q) σ h
  | c, Q, σ, h => BWP P Γ f0 N c Q σ h

theorem bCode_ok : ∀ (c : Code) (Q : Exit → Tm → AH → Prop) (σ : Tm) (h : AH), codeOK N c = true → bCode P Γ f0 B N c Q σ h → BWP P Γ f0 N c Q σ h := by
  intro c
  induction c with
  | skip => exact fun Q σ h _ H => .of (awp_skip H)
  | label l => exact fun Q σ h _ H => .of (awp_label H)
  | exit id => exact fun Q σ h _ H => .of (awp_exit H)
  | goto l => exact fun Q σ h _ H => .of (awp_goto H)
  | ret => exact fun Q σ h _ H => .of (awp_ret H)
  | region id ops d =>
    intro Q σ h hc H
    simp only [codeOK, Bool.and_eq_true] at hc
    cases d with
    | false => exact .of (awp_regionX hc.1 H)
    | true => exact H
  | seq x y ix iy =>
    intro Q σ h hc H
    simp only [codeOK, Bool.and_eq_true] at hc
    refine bwp_seq ((ix _ σ h hc.1 H).mono fun e σ h he => ?_)
    cases e with
    | normal =>
      simp only [thenA] at he ⊢
      cases hs : stops x with
      | true => rw [hs] at he; exact he
      | false => rw [hs] at he; exact iy Q σ h hc.2 he
    | _ => exact he
  | cond b x y ix iy =>
    intro Q σ h hc H
    simp only [codeOK, Bool.and_eq_true] at hc
    obtain ⟨v, hv, h1, h2⟩ := aBool_inv H
    exact bwp_cond hv (fun e => ix Q σ h hc.1 (h1 e)) (fun e => iy Q σ h hc.2 (h2 e))
  | block id c ic => exact fun Q σ h hc H => bwp_block (ic _ σ h hc H)
  | loop c _ => exact fun Q σ h _ H => H
  | rangeFunc f ps a b _ _ => exact fun Q σ h _ H => H
  | scope c _ => exact fun Q σ h _ H => H
  | refuse s => exact fun Q σ h _ H => H

/-- **A loop over a list's elements**, panics taken in. -/
theorem bwp_loopL {α β : Type} {c : Code} (xs : List α) (L : List Nat) (st : List α → β → Tm) (hp : β → AH) (inv : List α → List α → β → Prop) (b0 : β) (h1 : keep L σ = st [] b0) (h2 : h = hp b0) (h3 : inv [] xs b0)
    (hc : codeOK N c = true) (H1 : ∀ don x r b, xs = don ++ x :: r → inv don (x :: r) b → bCode P Γ f0 B N c (roundL L st hp inv don x r Q) (st don b) (hp b))
    (H0 : ∀ b, inv xs [] b → bCode P Γ f0 B N c (roundZ Q) (st xs b) (hp b)) : BWP P Γ f0 N (.loop c) Q σ h := by
  refine bwp_loop (fun n σ h => ∃ don rest b, n = rest.length ∧ xs = don ++ rest ∧ inv don rest b ∧ Wkt (keep L σ) (st don b) ∧ h = hp b) ⟨[], xs, b0, rfl, rfl, h3, .of_eq h1, h2⟩ fun n σ h hx => ?_
  obtain ⟨don, rest, b, rfl, hxs, hi, hs, rfl⟩ := hx
  refine BWP.keep L (BWP.wks ?_ hs)
  cases rest with
  | nil =>
    rw [List.append_nil] at hxs
    subst hxs
    refine (bCode_ok c _ _ _ hc (H0 b hi)).mono fun e σ h he => ?_
    cases e with
    | normal => exact he.elim
    | _ => exact he
  | cons x r =>
    refine (bCode_ok c _ _ _ hc (H1 don x r b hxs hi)).mono fun e σ h he => ?_
    cases e with
    | normal =>
      obtain ⟨b', k1, k2, k3⟩ := he
      exact ⟨r.length, by simp, don ++ [x], r, b', rfl, by simp [hxs], k1, k2, k3⟩
    | _ => exact he
theorem roundL_panic {α β : Type} {L : List Nat} {st : List α → β → Tm} {hp : β → AH} {inv : List α → List α → β → Prop} {don : List α} {x : α} {r : List α} (c : List PanicEntry) : roundL L st hp inv don x r Q (.panic c) σ h = Q (.panic c) σ h := (rfl)
theorem roundZ_panic (c : List PanicEntry) : roundZ Q (.panic c) σ h = Q (.panic c) σ h := (rfl)
theorem thenA_panic (K : Tm → AH → Prop) (c : List PanicEntry) : thenA K Q (.panic c) σ h = Q (.panic c) σ h := (rfl)
theorem blockA_panic (id : Nat) (c : List PanicEntry) : blockA id Q (.panic c) σ h = Q (.panic c) σ h := (rfl)

/-! ### Ways out -/
/-- What is left where a panic leaves a function that began at heap h. -/
def PanOK (B : Nat) (h : AH) (X : Value → Prop) (c : List PanicEntry) (h' : AH) : Prop := ∃ u, c = pan u ∧ X u ∧ h.length ≤ h'.length ∧ ∀ i, i < B → h'[i]? = h[i]?
theorem PanOK.now {X : Value → Prop} {u : Value} (hB : B ≤ h.length) (hX : X u) (l : AH) : PanOK B h X (pan u) (deadH B (h ++ l)) := ⟨u, rfl, hX, by rw [deadH_len]; simp, fun i hi => by
  rw [deadH_get hi, List.getElem?_append_left (by omega)]⟩
theorem PanOK.here {X : Value → Prop} {u : Value} (hB : B ≤ h.length) (hX : X u) (l : AH) : PanOK B h X (pan u) (h ++ l) := ⟨u, rfl, hX, by simp, fun i hi => by
  rw [List.getElem?_append_left (by omega)]⟩
/-- The marks are shut, and the panic goes on. -/
theorem passes_marks {h0 : AH} {G0 : Gh} {w0 : World} {R : AV → AH → Prop} {X : Value → Prop} {u : Value} (hI0 : Inv Γ G0 h0 w0) (hX : X u) : ∀ (Ds : List Nat) (G : Gh) (h : AH) (w : World), G0.le G → Inv Γ G h w → (∀ D ∈ Ds, ¬ G0.ds D ∧ G.ds D ∧ ∀ b, G.lpD b ≠ some D) → Ds.Nodup →
    h0.length ≤ h.length → (∀ i, i < B → h[i]? = h0[i]?) → passes P (ResX Γ G0 h0 B R X) (pan u) (Ds.map mark) w := by
  intro Ds
  induction Ds with
  | nil =>
    intro G h w hle hI _ _ hl hp
    obtain ⟨G2, k1, k2, k3, _⟩ := hI0.raise hle hI hl hp
    exact .inr ⟨u, G2, rfl, k1, k2, k3, hX⟩
  | cons D Ds ih =>
    intro G h w hle hI hD hnd hl hp
    obtain ⟨d1, d2, d3⟩ := hD D (List.mem_cons_self ..)
    rw [List.nodup_cons] at hnd
    refine ⟨D, _, rfl, run_takeDeferred (hI.dsI D d2).1, ih _ h _ (Gh.le_endD hle d1) (hI.endD d2 d3) (fun D' hD' => ?_) hnd.2 hl hp⟩
    obtain ⟨e1, e2, e3⟩ := hD D' (List.mem_cons_of_mem _ hD')
    exact ⟨e1, ⟨e2, fun e => hnd.1 (e ▸ hD')⟩, e3⟩
theorem leaves_passes {fn : Func} {t : Array Value} {R : Ending → World → Prop} {c : List PanicEntry} : ∀ (Ds : List Nat) (w : World), passes P R c (Ds.map mark) w → LeavesInM (Fr none) 0 P fn t R (Ds.map mark) (.panicking c) w
  | [], _, H => H
  | D :: Ds, w, ⟨D', w', h1, h2, h3⟩ => ⟨by simp, .inl ⟨D', w', h1, h2, leaves_passes Ds w' h3⟩⟩
/-- How a function's body may end, panics taken in. -/
def endX (P : Program) (rs : List ResultVar) (B : Nat) (h0 : AH) (R : AV → AH → Prop) (X : Value → Prop) : Exit → Tm → AH → Prop
  | .ret, σ, h => aResL P σ h rs fun vs => R (oneOf vs) h
  | .normal, σ, h => aResL P σ h rs fun vs => R (oneOf vs) h
  | .panic c, _, h => PanOK B h0 X c h
  | _, _, _ => False
/-- **A function's contract from the walk of its body**, panics taken in. -/
theorem acallsX_of_bwp {fn : Func} {c : Code} {args : List AV} {rs : List ResultVar} {R : AV → AH → Prop} {X : Value → Prop} (hf : P.funcs[f0]? = some fn) (hb : fn.body = some c) (hn : (fn.name == "runtime.NumGoroutine") = false)
    (hN : Nat.ble args.length fn.ntmps = true) (hrs : fn.results = rs.toArray) (H : BWP P Γ f0 fn.ntmps c (endX P rs B h R X) (argsT 0 args) h) : ACallsX P Γ B f0 args h R X := by
  refine ⟨fun vs w => enters_ok hf hb hn vs w, fun G w vs hI hv => ?_⟩
  refine (callsIn_Fr (r := none) (n := 0)).1 (callsIn_of_wpB hf hb ?_)
  refine wpB_mono (H none G w _ (fun l e => by cases e) hI (args_TR hv (Nat.le_of_ble_eq_true hN))) fun e a' w' hp => ?_
  obtain ⟨G', σ', h', Ds, h1, h2, h3, h4, h5, h6, h7⟩ := hp
  simp only [List.append_nil] at h4
  have ret : aResL P σ' h' rs (fun vs => R (oneOf vs) h') → LeavesInM (Fr none) 0 P fn a'.tmps (ResX Γ G h B R X) (Ds.map mark) .returning w' := fun h7 => by
    have := leaves_marks (P := P) (fn := fn) hrs Ds G' h' w' h1 h2 h3 h5 h6 h7
    clear h5 h6
    have mono : ∀ (ds : List Nat) (w : World), LeavesInM (Fr none) 0 P fn a'.tmps (Res Γ G R) (ds.map mark) .returning w → LeavesInM (Fr none) 0 P fn a'.tmps (ResX Γ G h B R X) (ds.map mark) .returning w := by
      intro ds
      induction ds with
      | nil => rintro w ⟨v, k1, k2⟩; exact ⟨v, k1, .inl k2⟩
      | cons D ds ih =>
        rintro w ⟨k0, k⟩
        rcases k with ⟨r, w', k1, k2, k3⟩ | ⟨_, fv, cap, f, args, k1, _⟩
        · exact ⟨k0, .inl ⟨r, w', k1, k2, ih w' k3⟩⟩
        · cases k1
    exact mono Ds w' this
  cases e with
  | ret => show LeavesInM (Fr none) 0 P fn a'.tmps _ a'.defers .returning w'; rw [h4]; exact ret h7
  | normal => show LeavesInM (Fr none) 0 P fn a'.tmps _ a'.defers .returning w'; rw [h4]; exact ret h7
  | panic ch =>
    obtain ⟨u, rfl, hX, hl, hp⟩ := h7
    show LeavesInM (Fr none) 0 P fn a'.tmps _ a'.defers (.panicking (pan u)) w'
    rw [h4]
    exact leaves_passes Ds w' (passes_marks hI hX Ds G' h' w' h1 h2 h5 h6 hl hp)
  | _ => exact h7.elim
theorem acallsX_code {fn : Func} {c : Code} {args : List AV} {rs : List ResultVar} {R : AV → AH → Prop} {X : Value → Prop} (f0 : FuncId) (hf : P.funcs[f0]? = some fn) (hb : fn.body = some c) (hn : (fn.name == "runtime.NumGoroutine") = false)
    (hN : Nat.ble args.length fn.ntmps = true) (hrs : fn.results = rs.toArray) (hc : codeOK fn.ntmps c = true) (H : bCode P Γ f0 B fn.ntmps c (endX P rs B h R X) (argsT 0 args) h) : ACallsX P Γ B f0 args h R X :=
  acallsX_of_bwp hf hb hn hN hrs (bCode_ok c _ _ _ hc H)
/-! ### Rounds and ranges -/
/-- How a round may end, panics taken in: from B on objects may be lost in one. -/
def roundPostX (L : Nat) (li : LI) (B : Nat) (h0 : AH) (R : AV → AH → Prop) (X : Value → Prop) : Exit → Tm → AH → Prop
  | .panic c, _, h => PanOK B h0 X c h
  | e, σ, h => roundPostA L li R e σ h
theorem roundPostX_normal {L : Nat} {li : LI} {h0 : AH} {R : AV → AH → Prop} {X : Value → Prop} : roundPostX L li B h0 R X .normal σ h = roundPostA L li R .normal σ h := (rfl)
theorem roundPostX_ret {L : Nat} {li : LI} {h0 : AH} {R : AV → AH → Prop} {X : Value → Prop} : roundPostX L li B h0 R X .ret σ h = roundPostA L li R .ret σ h := (rfl)
theorem roundPostX_exit {L : Nat} {li : LI} {h0 : AH} {R : AV → AH → Prop} {X : Value → Prop} (id : Nat) : roundPostX L li B h0 R X (.exit id) σ h = roundPostA L li R (.exit id) σ h := (rfl)
theorem roundPostX_panic {L : Nat} {li : LI} {h0 : AH} {R : AV → AH → Prop} {X : Value → Prop} (c : List PanicEntry) : roundPostX L li B h0 R X (.panic c) σ h = PanOK B h0 X c h := (rfl)
/-- **A round, out of its body**, panics taken in. -/
theorem ayieldX_of_body {L : Nat} {li : LI} {fn : Func} {args : List AV} {R : AV → AH → Prop} {X : Value → Prop} (hf0 : li.fn = some f0) (hfn : P.funcs[f0]? = some fn) (hL : h[L]? = some (.loop .ready none li)) (hN : ∀ p ∈ li.params.toList, p < li.N) (hlen : li.params.toList.length = args.length)
    (H : AWP P Γ li.N li.assign (thenA (fun σ' h' => h'[L]? = some (.loop .ready none li) ∧ BWP P Γ f0 li.N li.body (roundPostX L li B h R X) σ' (h'.set L (.loop .busy none li))) fun _ _ _ => False) (Abs.putArgs li.params.toList args li.σ) h) :
    AYieldX P Γ B L args h R X := fun G w vs b hI hv hb => by
  obtain ⟨b', l, k1, k2, k3, k4, k5, k6, k7, k8, k9, k10⟩ := hI.obj L _ hL
  rw [hb] at k1; cases k1
  have hsz : vs.size = l.params.size := by rw [k5, ← hv.1, ← hlen]; simp
  have hlf := k10 f0 hf0
  refine ⟨l.fn, _, l.assign, l.body, run_yield k2 hsz, fun r => ?_⟩
  rw [hlf]
  refine roundIn_of_wpB hfn ?_
  have hlp : ∀ l', some b = some l' → ∃ D, G.lpD l' = some D := fun l' e => by cases e; exact ⟨_, k9⟩
  have ht : TR li.N G (Abs.putArgs li.params.toList args li.σ) ((l.params.zip vs).foldl (fun tmps (p : Tmp × Value) => tmps.setIfInBounds p.1 p.2) l.tmps) := by
    have := TR.putArgs (N := li.N) (G := G) li.params.toList args vs.toList li.σ l.tmps hlen (by have := hv.1; simpa using this) hN (fun j c v e e' => by
      obtain ⟨u, e1, e2⟩ := hv.get e
      rw [Array.getElem?_toList, e1] at e'; cases e'; exact e2) k8
    rw [k5, ← Array.foldl_toList, Array.toList_zip]
    exact this
  rw [k6, k7]
  refine wpB_mono (wpB_of (H (some b) G w { tmps := _, defers := [] } hlp hI ht)) fun e a1 w1 hp => ?_
  obtain ⟨G1, σ1, h1, Ds, e1, e2, e3, e4, e5, e6, e7⟩ := hp
  cases e with
  | normal =>
    obtain ⟨hL1, hbody⟩ := e7
    have hb1 := e1.ρ L b hb
    obtain ⟨b', l1, m1, m2, m3, m4, m5, m6, m7, m8, m9, m10⟩ := e2.obj L _ hL1
    rw [hb1] at m1; cases m1
    refine ⟨_, run_beginRound m2 m3, ?_⟩
    have hI1 := e2.setLoop (st' := .busy) (pe' := l1.pending) hL1 hb1 m2
    rw [m4] at hI1
    simp only [List.append_nil] at e4
    refine wpB_mono (hbody (some b) G1 _ a1 (fun l' e => by cases e; exact ⟨_, m9⟩) (by have := hI1; simpa [m4] using this) e3) fun e a2 w2 hp2 => ?_
    obtain ⟨G2, σ2, h2, Ds2, f1, f2, f3, f4, f5, f6, f7⟩ := hp2
    have fin : ∀ (jump : Option Code), h2[L]? = some (.loop .busy none li) → R (.bool jump.isNone) (h2.set L (.loop (if jump.isNone then .ready else .done) jump li)) →
        ∃ v w', (Instr.endRound b jump).run P w2 = .ok v w' ∧ ResX Γ G h B R X (.returned v) w' := fun jump hL2 hR => by
      have hb2 := f1.ρ L b hb1
      obtain ⟨b', l2, n1, n2, _⟩ := f2.obj L _ hL2
      rw [hb2] at n1; cases n1
      exact ⟨_, _, run_endRound jump n2, .inl ⟨_, G2, .bool jump.isNone, _, rfl, e1.trans f1, f2.setLoop hL2 hb2 n2, .bool _, hR⟩⟩
    cases e with
    | normal => exact fin none f7.1 f7.2
    | ret => exact fin (some .ret) f7.1 f7.2
    | exit id => exact fin (some (.exit id)) f7.1 f7.2
    | goto t => exact fin (some (.goto t)) f7.1 f7.2
    | panic c =>
      obtain ⟨u, rfl, hX, hl, hp⟩ := f7
      show passes P _ (pan u) a2.defers w2
      rw [f4, e4, ← List.map_append]
      refine passes_marks hI hX (Ds2 ++ Ds) G2 h2 w2 (e1.trans f1) f2 (fun D hD => ?_) ?_ hl hp
      · rcases List.mem_append.1 hD with hD | hD
        · exact ⟨fun k => (f5 D hD).1 (e1.ds D k), (f5 D hD).2⟩
        · exact ⟨(e5 D hD).1, f1.ds D (e5 D hD).2.1, fun b e => by
            obtain ⟨b', e'⟩ := f1.lpN b D e (e5 D hD).2.1
            exact (e5 D hD).2.2 b' e'⟩
      · rw [List.nodup_append]
        refine ⟨f6, e6, fun x hx y hy e => ?_⟩
        subst e
        exact (f5 x hx).1 (e5 x hy).2.1
    | outgrown => exact f7.elim
  | _ => exact e7.elim
theorem ayieldX_L {L N' : Nat} {li : LI} {fn : Func} {σ' : Tm} {ps : Array Tmp} {assign body : Code} {args : List AV} {R : AV → AH → Prop} {X : Value → Prop} (e : li = ⟨N', σ', ps, assign, body, some f0⟩) (hfn : P.funcs[f0]? = some fn) (hL : h[L]? = some (.loop .ready none li)) (hN : psOK N' ps = true) (hlen : ps.toList.length = args.length)
    (hm : P.follows .mixedOrders = true) (hc1 : codeOK N' assign = true) (hc2 : codeOK N' body = true)
    (H : aCode P Γ N' assign (thenA (fun σ h' => h'[L]? = some (.loop .ready none li) ∧ bCode P Γ f0 B N' body (roundPostX L li B h R X) σ (h'.set L (.loop .busy none li))) fun _ _ _ => False) (putArgs ps.toList args σ') h) : AYieldX P Γ B L args h R X := by
  subst e
  refine ayieldX_of_body rfl hfn hL (fun p hp => ?_) hlen ((aCode_ok hm _ _ _ _ hc1 H).mono fun e σ h he => ?_)
  · simp only [psOK, List.all_eq_true] at hN
    have := hN p hp
    simpa [Nat.blt_eq] using this
  · cases e with
    | normal => exact ⟨he.1, bCode_ok _ _ _ _ hc2 he.2⟩
    | _ => exact he
end
end Go.Abs

/- Ranges over functions through which panics go; functions that defer a call and recover. It says nothing of any program; no conditions. -/
set_option linter.unusedSimpArgs false
set_option linter.unusedVariables false
namespace Go.Abs
open Go Go.RowKit

section
variable {P : Program} {Γ : Nat → Option (List AV)} {G : Gh} {h : AH} {w : World} {N B : Nat} {σ : Tm} {Q : Exit → Tm → AH → Prop} {f0 : FuncId}
/-- **A range over a function**, what was made meanwhile being kept, other loops turned, panics taken in. -/
theorem bwp_rangeFuncN {g : Operand} {ps : Array Tmp} {assign body : Code} {gf : FuncId} {first caps : List AV} {X : Value → Prop} (hg : ev Γ σ g = .func gf first caps) (hB : B ≤ h.length)
    (H : ACallsX P Γ B gf (first ++ [.yield h.length] ++ caps) (h ++ [.loop .ready none ⟨N, σ, ps, assign, body, some f0⟩]) (fun _ h' => ∃ h2 st pe l, h' = h2 ++ .loop st pe ⟨N, σ, ps, assign, body, some f0⟩ :: l ∧ h2.length = h.length ∧ (∀ (i : Nat) (st : LoopState) (pe : Option Code) (li : LI), (h2 ++ .dead :: l)[i]? = some (.loop st pe li) → ∃ st0 pe0 li0, h[i]? = some (.loop st0 pe0 li0)) ∧ st ≠ .busy ∧ afterLoop P Γ N Q σ (h2 ++ .dead :: l) pe) X)
    (hX : ∀ u, X u → Q (.panic (pan u)) σ (deadH B h)) :
    BWP P Γ f0 N (.rangeFunc g ps assign body) Q σ h := fun r G w a hr hI ht => by
  have hgv := ev_VR hI ht g
  rw [hg] at hgv
  generalize hvf : a.eval g = vf at hgv
  cases hgv with
  | func f1 f2 f3 f4 =>
  rename_i vfirst vcap
  obtain ⟨henter, hcall⟩ := H
  refine wpB_rangeFunc ?_
  -- the record is laid
  obtain ⟨D, marks, w1, b, G1, hrun, hIL, hle, ⟨hb1, hb2, hb3⟩, hmarks⟩ : ∃ (D : Nat) (marks : List Nat) (w1 : World) (b : Nat) (G1 : Gh),
      (Instr.enterLoop f0 a.tmps ps assign body r).run P w = .ok (b, marks.map mark) w1 ∧
      Inv Γ G1 (h ++ [.loop .ready none ⟨N, σ, ps, assign, body, some f0⟩]) w1 ∧ G.le G1 ∧ (G1.ρ h.length = some b ∧ G1.lpD b = some D ∧ G.lpD b = none) ∧
      ((marks = [] ∧ ∃ x, G.lpD x = some D) ∨ (marks = [D] ∧ ¬ G.ds D ∧ ∀ x, G1.lpD x = some D → x = b)) := by
    have hleG : ∀ (G0 : Gh) (b D : Nat), G0.ρ = G.ρ → G0.F = G.F → G0.ar = G.ar → G0.w0 = G.w0 → G0.lpD = G.lpD → (∀ x, G.ds x → G0.ds x) → G.lpD b = none → ((∃ x, G.lpD x = some D) ∨ ¬ G.ds D) → G.le (G0.loop h.length b D) :=
      fun G0 b D e1 e2 e3 e4 e5 e6 e7 e8 => ⟨e4, fun i c e => by
          have := hI.domρ i c e
          simp only [Gh.loop, Gh.add, e1]
          rw [if_neg (by omega)]; exact e, fun b o v e => by simp only [Gh.loop, Gh.add, e2]; exact e, fun i r e => ⟨r, by simp only [Gh.loop, Gh.add, e3]; exact e, Nat.le_refl _, fun _ => rfl⟩, fun x D' e => by
          simp only [Gh.loop, e5]
          rw [if_neg (fun e' => by subst e'; rw [e7] at e; cases e)]; exact e, e6, fun x D' e ed => by
          simp only [Gh.loop, e5] at e
          split at e
          · cases e
            rcases e8 with e8 | e8
            · exact e8
            · exact absurd ed e8
          · exact ⟨x, e⟩⟩
    cases r with
    | none =>
      have h1 := hI.newD
      have h2 := h1.newLoop { state := .ready, pending := none, fn := f0, tmps := a.tmps, params := ps, assign := assign, body := body, defers := w.heap.size } (.inr rfl) rfl rfl (li := ⟨N, σ, ps, assign, body, some f0⟩) rfl rfl rfl
        ⟨ht.1, fun i => by refine VR.same (G := G) ?_ ?_ ?_ (ht.2 i) <;> rfl⟩ (fun f e => by cases e; rfl)
      simp only [World.size_alloc] at h2
      refine ⟨w.heap.size, [w.heap.size], _, w.heap.size + 1, _, run_enterLoop_outer f0 a.tmps ps assign body, h2, ?_, ⟨Gh.add_same _ _ _, by simp [Gh.loop], hI.lpD_none (by omega)⟩, .inr ⟨rfl, hI.ds_not (Nat.le_refl _), fun x hx => ?_⟩⟩
      · exact hleG _ _ _ rfl rfl rfl rfl rfl (fun _ h => .inl h) (hI.lpD_none (by omega)) (.inr (hI.ds_not (Nat.le_refl _)))
      · simp only [Gh.loop] at hx
        split at hx
        · assumption
        · obtain ⟨l, _, _, k⟩ := hI.lp x _ hx
          exact absurd k (hI.ds_not (Nat.le_refl _))
    | some l0 =>
      obtain ⟨D, hD⟩ := hr l0 rfl
      obtain ⟨r0, k1, k2, k3⟩ := hI.lp l0 D hD
      have h2 := hI.newLoop { state := .ready, pending := none, fn := f0, tmps := a.tmps, params := ps, assign := assign, body := body, defers := r0.defers } (by rw [k2]; exact k3) rfl rfl (li := ⟨N, σ, ps, assign, body, some f0⟩) rfl rfl rfl ht (fun f e => by cases e; rfl)
      refine ⟨r0.defers, [], _, w.heap.size, _, run_enterLoop_inner k1 f0 a.tmps ps assign body, h2, ?_, ⟨Gh.add_same _ _ _, by simp [Gh.loop], hI.lpD_none (Nat.le_refl _)⟩, .inl ⟨rfl, l0, by rw [k2]; exact hD⟩⟩
      exact hleG _ _ _ rfl rfl rfl rfl rfl (fun _ h => h) (hI.lpD_none (Nat.le_refl _)) (.inl ⟨l0, by rw [k2]; exact hD⟩)
  have hargs : VRs G1 (first ++ [.yield h.length] ++ caps) ((vfirst ++ #[.func (.yield b) #[] #[]]) ++ vcap) :=
    VRs.append (VRs.append ((show VRs G first vfirst from ⟨f1, f3⟩).mono hle) (VRs.one (VR.yield hb1))) ((show VRs G caps vcap from ⟨f2, f4⟩).mono hle)
  refine ⟨b, marks.map mark, w1, { target := .fn (.func gf) vcap, args := vfirst ++ #[.func (.yield b) #[] #[]] }, w1, gf, (vfirst ++ #[.func (.yield b) #[] #[]]) ++ vcap, w1, hrun, ?_, ?_, ?_⟩
  · simp only [resolve, rangeCall, hvf]
    simp [Deferred.ofValue, Act.eval]
  · simp [invoke, henter]
  refine CallsIn.mono (callsIn_Fr.2 (hcall G1 w1 _ hIL hargs)) fun e w3 hres => ?_
  rcases hres with hres | ⟨u, G2, rfl, k1, k2, _, hXu⟩
  rotate_left
  · obtain ⟨G3, q1, q2, q3, q4⟩ := hI.raise (B := B) (hle.trans k1) k2 (by rw [deadH_len]; simp) (fun i hi => by rw [deadH_get hi, List.getElem?_append_left (by omega)])
    have hds : G2.ds D := by obtain ⟨_, _, _, k⟩ := hIL.lp b D hb2; exact k1.ds D k
    refine ⟨G3, σ, deadH B h, marks, q1, q2, ht.mono q1, rfl, fun D0 h0 => ?_, by rcases hmarks with ⟨rfl, _⟩ | ⟨rfl, _⟩ <;> simp, hX u hXu⟩
    rcases hmarks with ⟨rfl, _⟩ | ⟨rfl, n1, n2⟩
    · cases h0
    · rw [List.mem_singleton] at h0; subst h0
      refine ⟨n1, by rw [q4]; exact hds, fun x hx => ?_⟩
      rw [q3] at hx
      obtain ⟨_, _, _, k⟩ := hI.lp x _ hx
      exact n1 k
  obtain ⟨v, G2, av, h', rfl, k1, k2, _, h2, st, pe, l, rfl, hlen, hkept, hst, hafter⟩ := hres
  have hL : (h2 ++ .loop st pe ⟨N, σ, ps, assign, body, some f0⟩ :: l)[h.length]? = some (.loop st pe ⟨N, σ, ps, assign, body, some f0⟩) := by rw [← hlen]; simp
  obtain ⟨b', l3, m1, m2, m3, m4, m5, m6, m7, m8, m9, m10⟩ := k2.obj h.length _ hL
  have hb2' := k1.ρ _ _ hb1
  rw [hb2'] at m1; cases m1
  refine ⟨l3.pending, _, run_endLoop m2 (by rw [m3]; exact hst), ?_⟩
  have hnew := putObj_same (w := w3) (o := .loop { l3 with state := .exhausted }) (lt_of_heap m2)
  have hA := k2.write (w' := w3.putObj b (.loop { l3 with state := .exhausted })) hb2' putObj_size rfl rfl rfl (fun k hk => World.putObj_heap_other hk) .dead trivial (fun D0 hD0 => by
    obtain ⟨l4, e1, e2, _⟩ := k2.lp b D0 hD0
    rw [m2] at e1; cases e1
    exact ⟨_, hnew, e2⟩) (by rw [m2]; simp) (by rw [hL]; simp)
  rw [← hlen, List.set_append_right _ _ (Nat.le_refl _), Nat.sub_self, List.set_cons_zero] at hA
  have hle2 := hle.trans k1
  -- the loop's word is taken back
  obtain ⟨del, hdel1, hdel2, hdel3⟩ : ∃ del : Nat → Prop, del b ∧ (∀ x, (G.lpD x).isSome = true → ¬ del x) ∧ ∀ D0 ∈ marks, ¬ G.ds D0 ∧ G2.ds D0 ∧ ∀ x, G2.lpD x = some D0 → del x := by
    have hds : G2.ds D := by obtain ⟨_, _, _, k⟩ := hIL.lp b D hb2; exact k1.ds D k
    rcases hmarks with ⟨rfl, _⟩ | ⟨rfl, n1, n2⟩
    · refine ⟨fun x => x = b, rfl, fun x hx e => ?_, fun D0 h0 => by cases h0⟩
      subst e
      rw [hb3] at hx; cases hx
    · refine ⟨fun x => x = b ∨ G2.lpD x = some D, .inl rfl, fun x hx e => ?_, fun D0 h0 => ?_⟩
      · rcases e with rfl | e
        · rw [hb3] at hx; cases hx
        · cases hx' : G.lpD x with
          | none => rw [hx'] at hx; cases hx
          | some D' =>
            have := hle2.lpD x D' hx'
            rw [e] at this; cases this
            obtain ⟨_, _, _, k⟩ := hI.lp x D hx'
            exact n1 k
      · rw [List.mem_singleton] at h0; subst h0
        exact ⟨n1, hds, fun x hx => .inr hx⟩
  have hnd : marks.Nodup := by rcases hmarks with ⟨rfl, _⟩ | ⟨rfl, _⟩ <;> simp
  open Classical in
  have hC := hA.relp (fun x => if del x then none else G2.lpD x) G2.ds (fun i st pe li c l e hρ hl hlp => by
      obtain ⟨st0, pe0, li0, e⟩ := hkept i st pe li e
      obtain ⟨c', l', q1, q2, q3, q4, q5, q6, q7, q8, q9, q10⟩ := hI.obj i _ e
      have := hle2.ρ i c' q1
      rw [hρ] at this; cases this
      rw [if_neg (hdel2 c (by rw [q9]; rfl))]
      exact hlp)
    (fun x D0 e => by
      split at e
      · cases e
      · obtain ⟨l, q1, q2, q3⟩ := hA.lp x D0 e
        exact ⟨⟨l, q1, q2, q3⟩, hA.lpB x D0 e⟩)
    hA.dsI
  open Classical in
  have hleF : G.le { G2 with lpD := fun x => if del x then none else G2.lpD x, ds := G2.ds } :=
    ⟨hle2.w0, hle2.ρ, hle2.F, hle2.ar, fun x D0 e => by
      show (if del x then none else G2.lpD x) = some D0
      rw [if_neg (hdel2 x (by rw [e]; rfl))]; exact hle2.lpD x D0 e, hle2.ds, fun x D0 e ed => by
      have e' : (if del x then none else G2.lpD x) = some D0 := e
      split at e'
      · cases e'
      · exact hle2.lpN x D0 e' ed⟩
  have hTR : ∀ G' : Gh, G'.ρ = G2.ρ → G'.F = G2.F → G'.ar = G2.ar → TR N G' σ a.tmps := fun G' e1 e2 e3 =>
    ⟨ht.1, fun i => VR.same e1 e2 e3 ((ht.2 i).mono hle2)⟩
  have hDs : ∀ (G' : Gh), G'.ds = G2.ds → (∀ x, G'.lpD x = if del x then none else G2.lpD x) → ∀ D0 ∈ marks, ¬ G.ds D0 ∧ G'.ds D0 ∧ ∀ x, G'.lpD x ≠ some D0 := fun G' e1 e2 D0 h0 => by
    obtain ⟨q1, q2, q3⟩ := hdel3 D0 h0
    refine ⟨q1, by rw [e1]; exact q2, fun x e => ?_⟩
    rw [e2] at e
    split at e
    · cases e
    · rename_i hn; exact hn (q3 x e)
  generalize w3.putObj b (.loop { l3 with state := .exhausted }) = W at hC ⊢
  rw [m4]
  cases pe with
  | none => exact ⟨_, σ, h2 ++ .dead :: l, marks, hleF, hC, hTR _ rfl rfl rfl, rfl, hDs _ rfl (fun _ => rfl), hnd, hafter⟩
  | some c => exact AWP.after (show AWP P Γ N c Q σ (h2 ++ .dead :: l) from hafter) hr hleF (hDs _ rfl (fun _ => rfl)) hnd hC (a := { a with defers := marks.map mark ++ a.defers }) (hTR _ rfl rfl rfl) rfl
/-- A range over a function, its loop's words abbreviated. -/
theorem bwp_rangeFuncNL {g : Operand} {ps : Array Tmp} {assign body : Code} {gf : FuncId} {first caps : List AV} {X : Value → Prop} (hg : ev Γ σ g = .func gf first caps) (hB : B ≤ h.length)
    (H : ∀ li : LI, li = ⟨N, σ, ps, assign, body, some f0⟩ → ACallsX P Γ B gf (first ++ [.yield h.length] ++ caps) (h ++ [.loop .ready none li]) (fun _ h' => ∃ h2 st pe l, h' = h2 ++ .loop st pe li :: l ∧ h2.length = h.length ∧ (∀ (i : Nat) (st : LoopState) (pe : Option Code) (li : LI), (h2 ++ .dead :: l)[i]? = some (.loop st pe li) → ∃ st0 pe0 li0, h[i]? = some (.loop st0 pe0 li0)) ∧ st ≠ .busy ∧ afterLoop P Γ N Q σ (h2 ++ .dead :: l) pe) X)
    (hX : ∀ u, X u → Q (.panic (pan u)) σ (deadH B h)) : BWP P Γ f0 N (.rangeFunc g ps assign body) Q σ h := bwp_rangeFuncN hg hB (H _ rfl) hX

/-! ### Deferred calls -/
mutual
theorem exact_of : ∀ (a : AV) {u : Value}, exactV a = some u → VR G a u
  | .int k n, u, e => by cases e; exact .int k n
  | .bool b, u, e => by cases e; exact .bool b
  | .str s, u, e => by cases e; exact .str s
  | .iface t v, u, e => by
    rw [exactV] at e
    obtain ⟨v', h1, rfl⟩ := Option.map_eq_some_iff.1 e
    exact .iface t (exact_of v h1)
  | .agg cs, u, e => by
    rw [exactV] at e
    obtain ⟨l, h1, rfl⟩ := Option.map_eq_some_iff.1 e
    obtain ⟨k1, k2⟩ := exactL_get h1
    refine .agg (by simpa using k1) fun j c ej => ?_
    obtain ⟨v, q1, q2⟩ := k2 j c ej
    have := exact_ofL cs h1 j c v ej q2
    simpa [Array.getD_eq_getD_getElem?, q2] using this
  | .top, u, e => by cases e
  | .ptr _, u, e => by cases e
  | .eptr _, u, e => by cases e
  | .sl _ _, u, e => by cases e
  | .ms .., u, e => by cases e
  | .map _, u, e => by cases e
  | .func .., u, e => by cases e
  | .yield _, u, e => by cases e
  | .nilFunc, u, e => by cases e
  | .nilIface, u, e => by cases e
  | .tuple _, u, e => by cases e
theorem exact_ofL : ∀ (l : List AV) {r : List Value}, exactL l = some r → ∀ (j : Nat) (c : AV) (v : Value), l[j]? = some c → r[j]? = some v → VR G c v
  | [], r, e, j, c, v, ej, _ => by simp at ej
  | a :: l, r, e, j, c, v, ej, ev => by
    rw [exactL] at e
    split at e
    · rename_i v' r' q1 q2
      cases e
      cases j with
      | zero => simp at ej ev; subst ej ev; exact exact_of a q1
      | succ j => exact exact_ofL l q2 j c v (by simpa using ej) (by simpa using ev)
    · cases e
end

/-- How a frame is on its way out: it returns, or a panic goes on. -/
def modeOf : Option Value → FrameMode
  | none => .returning
  | some u => .panicking (pan u)
/-- How it is behind a call that has recovered. -/
def modeRec : Option Value → FrameMode
  | none => .returning
  | some u => .panicking [{ v := u, recovered := true }]
theorem settle_rec (p : Option Value) : settle (modeRec p) = .returning := by cases p <;> rfl
/-- A deferred call that recovers what goes on. -/
def ACallsD (P : Program) (Γ : Nat → Option (List AV)) (g : FuncId) (args : List AV) (h : AH) (p : Option Value) (R : AH → Prop) : Prop :=
  (∀ vs w, (callFunc g vs).run P w = .ok (.enter g vs) w) ∧ ∀ (G : Gh) (w : World) (vs : Array Value), Inv Γ G h w → VRs G args vs →
    CallsDIn (Fr none) 0 P g vs (modeOf p) w fun e u' w' => (∃ v, e = .returned v) ∧ u' = modeRec p ∧ ∃ G' h', G.le G' ∧ Inv Γ G' h' w' ∧ R h'

/-- An operation that makes no call. -/
def aStep (P : Program) (Γ : Nat → Option (List AV)) (σ : Tm) (h : AH) (op : Op) (K : AV → AH → Prop) : Prop :=
  match aSpec P Γ σ h op K with
  | some p => p
  | none => aop P Γ σ h op K
theorem aStep_ok (hI : Inv Γ G h w) {a : Act} (ht : TR N G σ a.tmps) {o : Oper} {K : AV → AH → Prop} (H : aStep P Γ σ h o.op K) : StepOK P Γ G w (execOp a.eval o) K := by
  unfold aStep at H
  split at H
  · rename_i p hp; exact (aSpec_ok hI ht hp H).2
  · exact aop_ok hI ht H
/-- Operations of a function that is entered as a deferred call: the first one recovers. -/
def aOpsR (P : Program) (Γ : Nat → Option (List AV)) (K : Tm → AH → Prop) : List Oper → Tm → AH → Prop
  | [], σ, h => K σ h
  | o :: rest, σ, h => match o.guard with
    | none => aStep P Γ σ h o.op fun v h => aOpsR P Γ K rest (put o.dst v σ) h
    | some _ => False
def isRec (o : Oper) : Bool := o.guard.isNone && (match o.op with
  | .call c => (match c.callee with
    | .builtin .recover => true
    | _ => false)
  | _ => false)
theorem aOpsR_ok {ops : Array Oper} {cs : List Frame} {QS : Exit → Act → List Frame → World → Prop} {G0 : Gh} {K : Tm → AH → Prop} (hQ : ∀ G σ h a w, G0.le G → Inv Γ G h w → TR N G σ a.tmps → a.defers = [] → K σ h → QS .normal a cs w) :
    ∀ (l : List Nat) (σ : Tm) (h : AH) (G : Gh) (w : World) (a : Act), (∀ i ∈ l, ∀ o, ops[i]? = some o → ∀ x, o.dst = some x → x < N) → G0.le G → Inv Γ G h w → TR N G σ a.tmps → a.defers = [] → aOpsR P Γ K (l.filterMap (ops[·]?)) σ h → wpOpsSIn (Fr none) 0 P ops QS l a cs w := by
  intro l
  induction l with
  | nil => intro σ h G w a _ hle hI ht hd H; exact hQ G σ h a w hle hI ht hd H
  | cons i rest ih =>
    intro σ h G w a hdst hle hI ht hd H
    rw [wpOpsSIn]
    cases ho : ops[i]? with
    | none =>
      simp only [List.filterMap_cons, ho] at H
      exact ih σ h G w a (fun j hj => hdst j (List.mem_cons_of_mem _ hj)) hle hI ht hd H
    | some o =>
      simp only [List.filterMap_cons, ho, aOpsR] at H
      have hdo := hdst i (List.mem_cons_self ..) o ho
      refine ⟨fun _ _ => trivial, ?_⟩
      split at H
      · rename_i hg
        have hw : Region.wanted o (yielded ops a.tmps) = true := by unfold Region.wanted; rw [hg]
        simp only [hw, if_true]
        obtain ⟨n, u, w', G', av, h', k1, k2, k3, k4, k5, k6⟩ := aStep_ok hI ht H
        have go := ih _ h' G' w' (a.put o.dst u) (fun j hj => hdst j (List.mem_cons_of_mem _ hj)) (hle.trans k3) k4 ((ht.mono k3).put hdo k5) ((put_defers a o.dst u).trans hd) k6
        rw [k1]
        rcases k2 with rfl | ⟨rfl, rfl⟩ <;> exact go
      · exact H.elim
/-- The marks of a frame on its way out are shut. -/
theorem shut_marks {G0 : Gh} {cs : List Frame} : ∀ (Ds : List Nat) (G : Gh) (w : World) (fr : Frame), G0.le G → Inv Γ G h w → (∀ D ∈ Ds, ¬ G0.ds D ∧ G.ds D ∧ ∀ b, G.lpD b ≠ some D) → Ds.Nodup → fr.mode ≠ .run → fr.defers = Ds.map mark →
    ∃ G' w', G0.le G' ∧ Inv Γ G' h w' ∧ StepsIn (Machine.fenced P (Fr none)) P (lone fr cs w) (lone { fr with defers := [] } cs w')
  | [], G, w, fr, hle, hI, _, _, _, hd => ⟨G, w, hle, hI, by
      have : ({ fr with defers := [] } : Frame) = fr := by
        have hd : fr.defers = [] := hd
        rw [← hd]
      rw [this]; exact .refl _⟩
  | D :: Ds, G, w, fr, hle, hI, hD, hnd, hm, hd => by
    obtain ⟨d1, d2, d3⟩ := hD D (List.mem_cons_self ..)
    rw [List.nodup_cons] at hnd
    obtain ⟨G', w', k1, k2, k3⟩ := shut_marks (cs := cs) Ds _ _ { fr with defers := [] ++ Ds.map mark } (Gh.le_endD hle d1) (hI.endD d2 d3) (fun D' hD' => by
      obtain ⟨e1, e2, e3⟩ := hD D' (List.mem_cons_of_mem _ hD')
      exact ⟨e1, ⟨e2, fun e => hnd.1 (e ▸ hD')⟩, e3⟩) hnd.2 hm rfl
    exact ⟨G', w', k1, k2, .head (fenced_Fr _) (step_collected hm hd rfl (run_takeDeferred (hI.dsI D d2).1)) k3⟩
/-- How the body of a deferred call may end. -/
def postD (Γ : Nat → Option (List AV)) (G : Gh) (c1 : Frame) (cs : List Frame) (R : AH → Prop) : Exit → Act → List Frame → World → Prop
  | .normal, a, cs', w | .ret, a, cs', w => cs' = c1 :: cs ∧ ∃ (G' : Gh) (h' : AH) (Ds : List Nat), G.le G' ∧ Inv Γ G' h' w ∧ a.defers = Ds.map mark ∧ (∀ D ∈ Ds, ¬ G.ds D ∧ G'.ds D ∧ ∀ b, G'.lpD b ≠ some D) ∧ Ds.Nodup ∧ R h'
  | _, _, _, _ => False
theorem callsDIn_of_postD {f : FuncId} {fn : Func} {c : Code} {args : Array Value} {u u1 : FrameMode} {R : AH → Prop} (hf : P.funcs[f]? = some fn) (hb : fn.body = some c) (hrs : fn.results = #[])
    (H : ∀ (c0 : Frame) (cs : List Frame), c0.mode = u → c.wpSIn (Fr none) 0 P (postD Γ G { c0 with mode := u1 } cs R) { tmps := args ++ Array.replicate (fn.ntmps - args.size) undef, defers := [] } (c0 :: cs) w) :
    CallsDIn (Fr none) 0 P f args u w fun e u' w' => (∃ v, e = .returned v) ∧ u' = u1 ∧ ∃ G' h', G.le G' ∧ Inv Γ G' h' w' ∧ R h' := by
  refine ⟨trivial, fun c0 cs hu hroom => ?_⟩
  let b : Frame := { (default : Frame) with fn := f, kind := .deferred, roundOf := none }
  have henter : Frame.enter P f args .deferred = b.atR { tmps := args ++ Array.replicate (fn.ntmps - args.size) undef, defers := [] } [.code c] := by
    simp [Frame.enter, Frame.atR, hf, hb, b]
  obtain ⟨e, a', cs', w', hl, hq, har⟩ := H c0 cs hu b [] rfl rfl trivial hroom
  rw [← henter] at har
  have hres : ∀ (t : Array Value) (w : World), (results fn t).run P w = .ok (.tuple #[]) w := fun t w => by
    rw [results_eq, hrs]; simp
  have fin : ∀ (todo : List Item), (cs' = { c0 with mode := u1 } :: cs ∧ ∃ (G' : Gh) (h' : AH) (Ds : List Nat), G.le G' ∧ Inv Γ G' h' w' ∧ a'.defers = Ds.map mark ∧ (∀ D ∈ Ds, ¬ G.ds D ∧ G'.ds D ∧ ∀ b, G'.lpD b ≠ some D) ∧ Ds.Nodup ∧ R h') →
      StepsIn (Machine.fenced P (Fr none)) P (lone (Frame.enter P f args .deferred) (c0 :: cs) w) (lone { b.atR a' todo with mode := .returning } cs' w') →
      ∃ e u' w' fr, ((∃ v, e = Ending.returned v) ∧ u' = u1 ∧ ∃ G' h', G.le G' ∧ Inv Γ G' h' w' ∧ R h') ∧ ComesIn (Machine.fenced P (Fr none)) P (lone (Frame.enter P f args .deferred) (c0 :: cs) w) (lone fr ({ c0 with mode := u' } :: cs) w') e ∧ fr.kind = .deferred ∧ fr.fn = f ∧ fr.going P w' e := fun todo hq hs => by
    obtain ⟨rfl, G', h', Ds, k1, k2, k3, k4, k5, k6⟩ := hq
    obtain ⟨G2, w2, q1, q2, q3⟩ := shut_marks (P := P) (cs := { c0 with mode := u1 } :: cs) Ds G' w' { b.atR a' todo with mode := .returning } k1 k2 k4 k5 (by simp) k3
    exact ⟨.returned (.tuple #[]), u1, w2, _, ⟨⟨_, rfl⟩, rfl, G2, h', q1, q2, k6⟩, StepsIn.trans hs q3, rfl, rfl, rfl, rfl, fn, hf, hres _ _⟩
  cases e with
  | normal => exact fin [] hq (StepsIn.trans har (.one (fenced_Fr _) (stepR_end rfl)))
  | ret => obtain ⟨todo, hs⟩ := har.1 rfl; exact fin todo hq hs
  | _ => exact hq.elim
/-- What a recovery hands back. -/
def recV : Option (AV × Value) → AV
  | some q => q.1
  | none => .nilIface
/-- **A deferred call's contract**: its body recovers first; the rest is code like any other. -/
theorem acallsD_code {g : FuncId} {fn : Func} {id : Nat} {o : Oper} {ops : List Oper} {c : Code} {args : List AV} {R : AH → Prop} (p : Option (AV × Value)) (hp : ∀ q, p = some q → exactV q.1 = some q.2) (hf : P.funcs[g]? = some fn) (hb : fn.body = some (.seq (.region id (o :: ops).toArray false) c)) (hn : (fn.name == "runtime.NumGoroutine") = false)
    (hN : Nat.ble args.length fn.ntmps = true) (hrs : fn.results = #[]) (hd : dstOK fn.ntmps (o :: ops).toArray = true) (hm : P.follows .mixedOrders = true) (hc : codeOK fn.ntmps c = true) (ho : isRec o = true)
    (H : aOpsR P Γ (fun σ h => aCode P Γ fn.ntmps c (fun e _ h => (e = .ret ∨ e = .normal) ∧ R h) σ h) ops (put o.dst (recV p) (argsT 0 args)) h) :
    ACallsD P Γ g args h (p.map (·.2)) R := by
  refine ⟨fun vs w => enters_ok hf hb hn vs w, fun G w vs hI hv => callsDIn_of_postD hf hb hrs fun c0 cs hmode => ?_⟩
  have ht := args_TR (N := fn.ntmps) hv (Nat.le_of_ble_eq_true hN)
  have hdst : ∀ (i : Nat) (o' : Oper), (o :: ops).toArray[i]? = some o' → ∀ x, o'.dst = some x → x < fn.ntmps := fun i o' ho' x hx => by
    have := List.all_eq_true.1 hd o' (by simpa using Array.mem_of_getElem? ho')
    rw [hx] at this
    exact Nat.le_of_ble_eq_true this
  simp only [isRec, Bool.and_eq_true, Option.isNone_iff_eq_none] at ho
  obtain ⟨hg, hop⟩ := ho
  refine wpSIn_seq (wpSIn_region ?_)
  obtain ⟨c1, hc1⟩ : ∃ c1 : Frame, c1 = { c0 with mode := modeRec (p.map (·.2)) } := ⟨_, rfl⟩
  rw [← hc1]
  have hrange : List.range (o :: ops).toArray.size = 0 :: (List.range ops.length).map (· + 1) := by
    simp [List.range_succ_eq_map]
  rw [hrange, wpOpsSIn]
  have h0 : (o :: ops).toArray[0]? = some o := by simp
  rw [h0]
  refine ⟨fun _ _ => trivial, ?_⟩
  have hw : ∀ y, Region.wanted o y = true := fun y => by unfold Region.wanted; rw [hg]
  simp only [hw, if_true]
  have hrun : ∀ (a : Act), (execOp a.eval o).run P w = .ok .recover w := fun a => by
    split at hop
    · rename_i cl hcl
      split at hop
      · rename_i hcal
        simp [execOp, hcl, resolve, hcal, invoke, builtin]
      · cases hop
    · cases hop
  rw [hrun]
  have hfm : ((List.range ops.length).map (· + 1)).filterMap ((o :: ops).toArray[·]?) = ops := by
    rw [List.filterMap_map]
    have : (fun i => (o :: ops).toArray[i]?) ∘ (· + 1) = fun i => ops[i]? := by funext i; simp
    rw [this]; exact filterMap_idx ops
  have fin : ∀ (u : Value), VR G (recV p) u →
      wpOpsSIn (Fr none) 0 P (o :: ops).toArray (Exit.thenS (c.wpSIn (Fr none) 0 P (postD Γ G c1 cs R)) (postD Γ G c1 cs R))
        ((List.range ops.length).map (· + 1)) (({ tmps := vs ++ Array.replicate (fn.ntmps - vs.size) undef, defers := [] } : Act).put o.dst u) (c1 :: cs) w := fun u hu => by
    refine aOpsR_ok (N := fn.ntmps) (G0 := G) (K := fun σ h => aCode P Γ fn.ntmps c (fun e _ h => (e = .ret ∨ e = .normal) ∧ R h) σ h) (fun G1 σ1 h1 a1 w1 q1 q2 q3 q4 q5 => ?_) _ _ h G w _ (fun i _ o' ho' x hx => hdst i o' ho' x hx) (Gh.le.refl G) hI ((ht.put (d := o.dst) (fun x hx => hdst 0 o h0 x hx) hu)) (put_defers _ _ _) (by rw [hfm]; exact H)
    have q6 := aCode_ok hm c _ σ1 h1 hc q5
    refine wpSIn_of_wpIn rfl (wpIn_mono (q6 none G1 w1 a1 (fun l e => by cases e) q2 q3) fun e a2 w2 hp => ?_)
    rw [q4] at hp
    obtain ⟨G2, σ2, h2, Ds, f1, f2, f3, f4, f5, f6, f7, f8⟩ := hp
    rw [List.append_nil] at f4
    have : c1 :: cs = c1 :: cs ∧ ∃ (G' : Gh) (h' : AH) (Ds : List Nat), G.le G' ∧ Inv Γ G' h' w2 ∧ a2.defers = Ds.map mark ∧ (∀ D ∈ Ds, ¬ G.ds D ∧ G'.ds D ∧ ∀ b, G'.lpD b ≠ some D) ∧ Ds.Nodup ∧ R h' :=
      ⟨rfl, G2, h2, Ds, q1.trans f1, f2, f4, fun D hD => ⟨fun k => (f5 D hD).1 (q1.ds D k), (f5 D hD).2⟩, f6, f8⟩
    rcases f7 with rfl | rfl
    · exact this
    · exact this
  cases p with
  | none =>
    have hmode : c0.mode = .returning := hmode
    have e1 : recoverD (c0 :: cs) = none := by simp [recoverD, hmode]
    have e2 : c1 = c0 := by
      rw [hc1]
      show ({ c0 with mode := FrameMode.returning } : Frame) = c0
      rw [← hmode]
    rw [e1]
    have := fin .nilIface .nilIface
    rw [e2] at this ⊢
    exact this
  | some q =>
    have hmode : c0.mode = .panicking (pan q.2) := hmode
    have e1 : recoverD (c0 :: cs) = some (q.2, c1 :: cs) := by
      rw [hc1]
      simp [recoverD, hmode, pan, modeRec]
    rw [e1]
    exact fin q.2 (exact_of q.1 (hp q rfl))
end
end Go.Abs
