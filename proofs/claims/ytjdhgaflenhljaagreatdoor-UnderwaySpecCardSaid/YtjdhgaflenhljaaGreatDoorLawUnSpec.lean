/- UnderwaySpec holds: for every input the call returns true, and each argument reads afterwards as it read before. No conditions. -/
import Derived.Test.YtjdhgaflenhljaaGreatDoorMrEQ
import Derived.Test.YtjdhgaflenhljaaGreatDoorMrER
import Derived.Test.YtjdhgaflenhljaaGreatDoorMrHK
import Derived.Test.YtjdhgaflenhljaaGreatDoorMrHM
import Derived.SevenTiedAt
namespace Go.Proofs.YtjdhgaflenhljaaGreatDoor
open Go Go.Proofs Go.Abs Go.RowKit Go.ChangeShapes Go.WideShapes Go.ChangeAt
set_option linter.unusedVariables false
set_option linter.unusedSimpArgs false
theorem underwaySpec_facts : lawFacts Tryz.prog [22, 39, 37, 9, 31, 32, 60, 35, 33, 3] Tryz.f3 = true := by kernel_rfl
theorem underwaySpec_laid (os : Os) : laidMetH Tryz.prog Rows.underwaySpecRow.laid ((laidWorld os).forCall (fun _ _ => 0) ⟨#[], #[.slice none 0 0, .int .i64 0, .int .i64 0, .int .i64 0], []⟩).memory :=
  laidMetH_of_parts3 (fuel := 8) (laidMet_of_run' 8 (by kernel_rfl) (by kernel_rfl)) (by kernel_rfl) (by kernel_rfl)
theorem underwaySpec_reads (os : Os) {H : Type} (enc : TypeId × Value → H) : ∃ places, DataW.whole enc Tryz.prog ((laidWorld os).forCall (fun _ _ => 0) ⟨#[], #[.slice none 0 0, .int .i64 0, .int .i64 0, .int .i64 0], []⟩).memory Tryz.f3.params.toList Rows.underwaySpecSpec.vars false (#[.slice none 0 0, .int .i64 0, .int .i64 0, .int .i64 0] : Array Value).toList 8 = some ([.nil, .lit (.int .i64 0), .lit (.int .i64 0), .lit (.int .i64 0)], [], places) :=
  ⟨[], by kernel_rfl⟩
set_option maxRecDepth 100000 in
theorem underwaySpec_lifted (os : Os) (started : os.Started) (H : Type) (enc : TypeId × Value → H) (F : Stop.Interp) :
    ReturnsInHanded {} Tryz.checked os 3 .any ((OpenSpec.ofChange Rows.underwaySpecSpec).preRow enc Tryz.prog Tryz.f3 Rows.underwaySpecRow.domain false Rows.underwaySpecRow.laid) (((OpenSpec.ofChange Rows.underwaySpecSpec).at F).post enc Tryz.prog Tryz.f3 false true false false) := by
  obtain ⟨places, hx⟩ := underwaySpec_reads os enc
  refine returnsInHanded_of_row (C := Tryz.checked) (s := OpenSpec.ofChange Rows.underwaySpecSpec) own started (by kernel_rfl) Tryz.func3
    (witness_row_at (enc := enc) (C := Tryz.checked) false (laidWorld os) #[.slice none 0 0, .int .i64 0, .int .i64 0, .int .i64 0] rfl (by kernel_rfl) (by kernel_rfl) (by kernel_rfl)
      (OpenSpec.preRow_of_cond 8 hx (by kernel_rfl) (fun k hk => by cases hk) (by kernel_rfl) (underwaySpec_laid os))) ?_
  intro W base args ds gs before hval hW _ _ _ hL _ _
  refine contract_ofG _ underwaySpec_facts rfl (fun ds hd => ?_) hval hW Gk (glob_of_laid hL) fun HT => ?_
  · rw [Tryz.params3] at hd
    match ds, hd with
    | [_, _, _, _], _ => rfl
  · rw [Tryz.params3] at HT
    generalize ds.map ofD = al at HT ⊢
    obtain ⟨a0, r0, rfl, q0, h0⟩ := HT.cons_inv
    obtain ⟨a1, r1, rfl, q1, h1⟩ := h0.cons_inv
    obtain ⟨a2, r2, rfl, q2, h2⟩ := h1.cons_inv
    obtain ⟨a3, r3, rfl, q3, h3⟩ := h2.cons_inv
    obtain rfl := h3.nil_inv
    obtain ⟨l, rfl, F⟩ := vers_of q0
    obtain ⟨begun, rfl, begun1, begun2⟩ := int_of q1
    obtain ⟨at_, rfl, at_1, at_2⟩ := int_of q2
    obtain ⟨kn, rfl, kn1, kn2⟩ := int_of q3
    exact (lawSpec_calls Gk Gk0 l begun at_ kn _ F).mono fun _ _ h => h.2
theorem underwaySpec_said : Rows.UnderwaySpecSaid :=
  OpenClaim.holds_of_cond 3 Tryz.f3 rfl rfl rfl rfl rfl rfl rfl ⟨rfl, rfl, rfl, rfl, rfl⟩ rfl rfl rfl rfl rfl (by kernel_rfl) Tryz.func3 (by kernel_rfl)
    (of_decide_eq_true (by kernel_rfl)) (by unfold Func.isWrapper; first | (rw [if_pos (by decide +kernel)]; kernel_rfl) | (rw [if_neg (by decide +kernel)]; exact ⟨rfl, rfl⟩))
    (fun os started H enc _ F => by rw [OpenClaim.pre_eq_preRow]; exact underwaySpec_lifted os started H enc F)
theorem underwaySpec_plain (f : FuncId) (fn : Func) (hf : Tryz.pinned.checked.prog.funcNamed "signatory/signatorylaw27.UnderwaySpec" = some f) (hfn : Tryz.pinned.checked.prog.funcs[f]? = some fn) :
    true = Tryz.pinned.checked.prog.looks [] ∧ ∀ (j : Nat) t, fn.params[j]? = some t → Tryz.pinned.checked.prog.wantsStandIn t = false := by
  obtain rfl : f = 3 := Option.some.inj ((show Tryz.prog.funcNamed "signatory/signatorylaw27.UnderwaySpec" = some 3 by kernel_rfl).symm.trans hf) |>.symm
  obtain rfl : fn = Tryz.f3 := (Option.some.inj (Tryz.func3.symm.trans hfn)).symm
  exact ⟨by kernel_rfl, fun j t ht => by
    rw [Tryz.params3] at ht
    have hm : t ∈ [22, 3] := by simpa using Array.mem_of_getElem? ht
    have hall : ([22, 3].all fun u => !Tryz.prog.wantsStandIn u) = true := by kernel_rfl
    exact (show Tryz.prog.wantsStandIn t = false by simpa using List.all_eq_true.1 hall t hm)⟩
theorem underwaySpec_holds : Rows.UnderwaySpecCardSaid :=
  Claim7.holds_tied_plain_at .later [] _ _ _ _ underwaySpec_said (fun _ h => by cases h) (by kernel_rfl) (fun _ h => by cases h) underwaySpec_row_tie rfl ⟨rfl, rfl⟩ (by kernel_rfl) rfl underwaySpec_plain (by kernel_rfl)
#print axioms underwaySpec_holds
end Go.Proofs.YtjdhgaflenhljaaGreatDoor
