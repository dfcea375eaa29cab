/- A function's code reckoned as a whole, up to its loops; loops by states. It says nothing of any program; no conditions. -/
import Derived.Test.YtopiamdfnaejeaaAbsL
set_option linter.unusedSimpArgs false
set_option linter.unusedVariables false
namespace Go.Abs
open Go Go.RowKit

/-- Is there a loop in it? -/
def stops : Code → Bool
  | .loop _ => true
  | .rangeFunc _ _ _ _ => true
  | .scope _ => true
  | .seq x y => stops x || stops y
  | .cond _ x y => stops x || stops y
  | .block _ c => stops c
  | _ => false

def codeOK (N : Nat) : Code → Bool
  | .region _ ops d => dstOK N ops && (!d || drawOK ops)
  | .seq x y => codeOK N x && codeOK N y
  | .cond _ x y => codeOK N x && codeOK N y
  | .block _ c => codeOK N c
  | _ => true

def aCode (P : Program) (Γ : Nat → Option (List AV)) (N : Nat) : Code → (Exit → Tm → AH → Prop) → Tm → AH → Prop
  | .skip, Q, σ, h => Q .normal σ h
  | .label _, Q, σ, h => Q .normal σ h
  | .exit id, Q, σ, h => Q (.exit id) σ h
  | .goto l, Q, σ, h => Q (.goto l) σ h
  | .ret, Q, σ, h => Q .ret σ h
  | .region _ ops false, Q, σ, h => aOps P Γ ops.toList (Q .normal) ops.toList σ h
  | .region _ ops true, Q, σ, h => Sep σ (seps ops.toList) ∧ aDets P Γ ops.toList (Q .normal) ops.toList σ h
  | .seq x y, Q, σ, h => aCode P Γ N x (thenA (fun σ h => bif stops x then AWP P Γ N y Q σ h else aCode P Γ N y Q σ h) Q) σ h
  | .cond c x y, Q, σ, h => aBool (ev Γ σ c) true (aCode P Γ N x Q σ h) (aCode P Γ N y Q σ h)
  | .block id c, Q, σ, h => aCode P Γ N c (blockA id Q) σ h
  | c, Q, σ, h => AWP P Γ N c Q σ h

section
variable {P : Program} {Γ : Nat → Option (List AV)} {G : Gh} {h : AH} {w : World} {N : Nat} {σ σ' : Tm} {Q : Exit → Tm → AH → Prop}

theorem aCode_ok (hm : P.follows .mixedOrders = true) : ∀ (c : Code) (Q : Exit → Tm → AH → Prop) (σ : Tm) (h : AH), codeOK N c = true → aCode P Γ N c Q σ h → AWP P Γ N c Q σ h := by
  intro c
  induction c with
  | skip => exact fun Q σ h _ H => awp_skip H
  | label l => exact fun Q σ h _ H => awp_label H
  | exit id => exact fun Q σ h _ H => awp_exit H
  | goto l => exact fun Q σ h _ H => awp_goto H
  | ret => exact fun Q σ h _ H => awp_ret H
  | region id ops d =>
    intro Q σ h hc H
    simp only [codeOK, Bool.and_eq_true] at hc
    cases d with
    | false => exact awp_region hc.1 H
    | true => exact awp_draw hm (by simpa using hc.2) hc.1 H.1 H.2
  | seq x y ix iy =>
    intro Q σ h hc H
    simp only [codeOK, Bool.and_eq_true] at hc
    refine awp_seq ((ix _ σ h hc.1 H).mono fun e σ h he => ?_)
    cases e with
    | normal =>
      simp only [thenA] at he ⊢
      cases hs : stops x with
      | true => rw [hs] at he; exact he
      | false => rw [hs] at he; exact iy Q σ h hc.2 he
    | _ => exact he
  | cond b x y ix iy =>
    intro Q σ h hc H
    simp only [codeOK, Bool.and_eq_true] at hc
    obtain ⟨v, hv, h1, h2⟩ := aBool_inv H
    exact awp_cond hv (fun e => ix Q σ h hc.1 (h1 e)) (fun e => iy Q σ h hc.2 (h2 e))
  | block id c ic => exact fun Q σ h hc H => awp_block (ic _ σ h hc H)
  | loop c _ => exact fun Q σ h _ H => H
  | rangeFunc f ps a b _ _ => exact fun Q σ h _ H => H
  | scope c _ => exact fun Q σ h _ H => H
  | refuse s => exact fun Q σ h _ H => H

/-- How a loop's round is left: off its end: in a state of a lesser measure. -/
def roundS {α : Type} (L : List Nat) (st : α → Tm) (hp : α → AH) (inv : α → Prop) (μ : α → Nat) (x : α) (Q : Exit → Tm → AH → Prop) : Exit → Tm → AH → Prop
  | .normal, σ, h => ∃ y, μ y < μ x ∧ inv y ∧ Wkt (keep L σ) (st y) ∧ h = hp y
  | e, σ, h => Q e σ h

/-- **A loop, by its states.** -/
theorem awp_loopS {α : Type} {c : Code} (L : List Nat) (st : α → Tm) (hp : α → AH) (inv : α → Prop) (μ : α → Nat) (x0 : α) (h1 : keep L σ = st x0) (h2 : h = hp x0) (h3 : inv x0)
    (hm : P.follows .mixedOrders = true) (hc : codeOK N c = true) (H : ∀ x, inv x → aCode P Γ N c (roundS L st hp inv μ x Q) (st x) (hp x)) : AWP P Γ N (.loop c) Q σ h := by
  refine awp_loop (fun n σ h => ∃ x, n = μ x ∧ inv x ∧ Wkt (keep L σ) (st x) ∧ h = hp x) ⟨x0, rfl, h3, .of_eq h1, h2⟩ fun n σ h hx => ?_
  obtain ⟨x, rfl, hi, hs, rfl⟩ := hx
  refine AWP.keep L (AWP.wks ?_ hs)
  refine (aCode_ok hm c _ _ _ hc (H x hi)).mono fun e σ h he => ?_
  cases e with
  | normal => obtain ⟨y, k1, k2, k3, k4⟩ := he; exact ⟨μ y, k1, y, rfl, k2, k3, k4⟩
  | _ => exact he

/-- A loop, its ways out gathered. -/
theorem AWP.via {c : Code} {Q' : Exit → Tm → AH → Prop} (H : AWP P Γ N c Q' σ h) (hQ : ∀ e σ h, Q' e σ h → Q e σ h) : AWP P Γ N c Q σ h := H.mono hQ

/-- **A function's contract from the reckoning of its code.** -/
theorem acalls_code {f : FuncId} {fn : Func} {c : Code} {args : List AV} {rs : List ResultVar} {R : AV → AH → Prop} (hf : P.funcs[f]? = some fn) (hb : fn.body = some c) (hn : (fn.name == "runtime.NumGoroutine") = false)
    (hN : Nat.ble args.length fn.ntmps = true) (hrs : fn.results = rs.toArray) (hm : P.follows .mixedOrders = true) (hc : codeOK fn.ntmps c = true) (H : aCode P Γ fn.ntmps c (endA P rs R) (argsT 0 args) h) : ACalls P Γ f args h R :=
  acalls_of_awp hf hb hn hN hrs (aCode_ok hm c _ _ _ hc H)
end
end Go.Abs
