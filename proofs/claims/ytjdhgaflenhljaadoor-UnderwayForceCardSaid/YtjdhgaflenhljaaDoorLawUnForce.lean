/- UnderwayForce holds: for every input the call returns true, and each argument reads afterwards as it read before. No conditions. -/
import Derived.Test.YtjdhgaflenhljaaDoorMrEQ
import Derived.Test.YtjdhgaflenhljaaDoorMrER
import Derived.Test.YtjdhgaflenhljaaDoorMrHK
import Derived.Test.YtjdhgaflenhljaaDoorMrHJ
import Derived.SevenTiedAt
namespace Go.Proofs.YtjdhgaflenhljaaDoor
open Go Go.Proofs Go.Abs Go.RowKit Go.ChangeShapes Go.WideShapes Go.ChangeAt
set_option linter.unusedVariables false
set_option linter.unusedSimpArgs false
theorem underwayForce_facts : lawFacts Tryd.prog [33, 45, 43, 9, 37, 38, 70, 41, 39, 3] Tryd.f6 = true := by kernel_rfl
theorem underwayForce_laid (os : Os) : laidMetH Tryd.prog Rows.underwayForceRow.laid ((laidWorld os).forCall (fun _ _ => 0) ⟨#[], #[.slice none 0 0, .int .i64 0, .int .i64 0, .int .i64 0, .int .i64 0], []⟩).memory :=
  laidMetH_of_parts3 (fuel := 8) (laidMet_of_run' 8 (by kernel_rfl) (by kernel_rfl)) (by kernel_rfl) (by kernel_rfl)
theorem underwayForce_reads (os : Os) {H : Type} (enc : TypeId × Value → H) : ∃ places, DataW.whole enc Tryd.prog ((laidWorld os).forCall (fun _ _ => 0) ⟨#[], #[.slice none 0 0, .int .i64 0, .int .i64 0, .int .i64 0, .int .i64 0], []⟩).memory Tryd.f6.params.toList Rows.underwayForceSpec.vars false (#[.slice none 0 0, .int .i64 0, .int .i64 0, .int .i64 0, .int .i64 0] : Array Value).toList 8 = some ([.nil, .lit (.int .i64 0), .lit (.int .i64 0), .lit (.int .i64 0), .lit (.int .i64 0)], [], places) :=
  ⟨[], by kernel_rfl⟩
set_option maxRecDepth 100000 in
theorem underwayForce_lifted (os : Os) (started : os.Started) (H : Type) (enc : TypeId × Value → H) (F : Stop.Interp) :
    ReturnsInHanded {} Tryd.checked os 6 .any ((OpenSpec.ofChange Rows.underwayForceSpec).preRow enc Tryd.prog Tryd.f6 Rows.underwayForceRow.domain false Rows.underwayForceRow.laid) (((OpenSpec.ofChange Rows.underwayForceSpec).at F).post enc Tryd.prog Tryd.f6 false true false false) := by
  obtain ⟨places, hx⟩ := underwayForce_reads os enc
  refine returnsInHanded_of_row (C := Tryd.checked) (s := OpenSpec.ofChange Rows.underwayForceSpec) own started (by kernel_rfl) Tryd.func6
    (witness_row_at (enc := enc) (C := Tryd.checked) false (laidWorld os) #[.slice none 0 0, .int .i64 0, .int .i64 0, .int .i64 0, .int .i64 0] rfl (by kernel_rfl) (by kernel_rfl) (by kernel_rfl)
      (OpenSpec.preRow_of_cond 8 hx (by kernel_rfl) (fun k hk => by cases hk) (by kernel_rfl) (underwayForce_laid os))) ?_
  intro W base args ds gs before hval hW _ _ _ hL _ _
  refine contract_ofG _ underwayForce_facts rfl (fun ds hd => ?_) hval hW Gk (glob_of_laid hL) fun HT => ?_
  · rw [Tryd.params6] at hd
    match ds, hd with
    | [_, _, _, _, _], _ => rfl
  · rw [Tryd.params6] at HT
    generalize ds.map ofD = al at HT ⊢
    obtain ⟨a0, r0, rfl, q0, h0⟩ := HT.cons_inv
    obtain ⟨a1, r1, rfl, q1, h1⟩ := h0.cons_inv
    obtain ⟨a2, r2, rfl, q2, h2⟩ := h1.cons_inv
    obtain ⟨a3, r3, rfl, q3, h3⟩ := h2.cons_inv
    obtain ⟨a4, r4, rfl, q4, h4⟩ := h3.cons_inv
    obtain rfl := h4.nil_inv
    obtain ⟨l, rfl, F⟩ := vers_of q0
    obtain ⟨begun, rfl, begun1, begun2⟩ := int_of q1
    obtain ⟨at_, rfl, at_1, at_2⟩ := int_of q2
    obtain ⟨kn, rfl, kn1, kn2⟩ := int_of q3
    obtain ⟨t, rfl, t1, t2⟩ := int_of q4
    exact (lawForce_calls Gk Gk0 l begun at_ kn t _ F).mono fun _ _ h => h.2
theorem underwayForce_said : Rows.UnderwayForceSaid :=
  OpenClaim.holds_of_cond 6 Tryd.f6 rfl rfl rfl rfl rfl rfl rfl ⟨rfl, rfl, rfl, rfl, rfl⟩ rfl rfl rfl rfl rfl (by kernel_rfl) Tryd.func6 (by kernel_rfl)
    (of_decide_eq_true (by kernel_rfl)) (by unfold Func.isWrapper; first | (rw [if_pos (by decide +kernel)]; kernel_rfl) | (rw [if_neg (by decide +kernel)]; exact ⟨rfl, rfl⟩))
    (fun os started H enc _ F => by rw [OpenClaim.pre_eq_preRow]; exact underwayForce_lifted os started H enc F)
theorem underwayForce_plain (f : FuncId) (fn : Func) (hf : Tryd.pinned.checked.prog.funcNamed "signatory/signatorylaw27.UnderwayForce" = some f) (hfn : Tryd.pinned.checked.prog.funcs[f]? = some fn) :
    true = Tryd.pinned.checked.prog.looks [] ∧ ∀ (j : Nat) t, fn.params[j]? = some t → Tryd.pinned.checked.prog.wantsStandIn t = false := by
  obtain rfl : f = 6 := Option.some.inj ((show Tryd.prog.funcNamed "signatory/signatorylaw27.UnderwayForce" = some 6 by kernel_rfl).symm.trans hf) |>.symm
  obtain rfl : fn = Tryd.f6 := (Option.some.inj (Tryd.func6.symm.trans hfn)).symm
  exact ⟨by kernel_rfl, fun j t ht => by
    rw [Tryd.params6] at ht
    have hm : t ∈ [33, 3] := by simpa using Array.mem_of_getElem? ht
    have hall : ([33, 3].all fun u => !Tryd.prog.wantsStandIn u) = true := by kernel_rfl
    exact (show Tryd.prog.wantsStandIn t = false by simpa using List.all_eq_true.1 hall t hm)⟩
theorem underwayForce_holds : Rows.UnderwayForceCardSaid :=
  Claim7.holds_tied_plain_at .later [] _ _ _ _ underwayForce_said (fun _ h => by cases h) (by kernel_rfl) (fun _ h => by cases h) underwayForce_row_tie rfl ⟨rfl, rfl⟩ (by kernel_rfl) rfl underwayForce_plain (by kernel_rfl)
#print axioms underwayForce_holds
end Go.Proofs.YtjdhgaflenhljaaDoor
