/- FormulasCompileSpec holds: for every input the call returns true, and each argument reads afterwards as it read before. No conditions. -/
import Derived.Test.YtplllkjobpjaoaaGreatDoorMrEQ
import Derived.Test.YtplllkjobpjaoaaGreatDoorMrER
import Derived.Test.YtplllkjobpjaoaaGreatDoorMrFG
import Derived.SevenTiedAt
namespace Go.Proofs.YtplllkjobpjaoaaGreatDoor
open Go Go.Proofs Go.Abs Go.RowKit Go.ChangeShapes Go.WideShapes Go.ChangeAt
set_option linter.unusedVariables false
set_option linter.unusedSimpArgs false
theorem formulasCompileSpec_facts : lawFacts Tryz.prog [28, 9, 22, 23, 50, 26, 24, 3, 29, 51, 75, 45] Tryz.f3 = true := by kernel_rfl
theorem formulasCompileSpec_laid (os : Os) : laidMetH Tryz.prog Rows.formulasCompileSpecRow.laid ((laidWorld os).forCall (fun _ _ => 0) ⟨#[], #[.agg #[.string ⟨#[]⟩, .slice none 0 0, .slice none 0 0, .slice none 0 0, .int .i64 0, .int .i64 0, .int .i64 0, .string ⟨#[]⟩, .slice none 0 0, .int .i64 0], .int .i64 0, .int .i64 0, .slice none 0 0], []⟩).memory :=
  laidMetH_of_parts3 (fuel := 8) (laidMet_of_run' 8 (by kernel_rfl) (by kernel_rfl)) (by kernel_rfl) (by kernel_rfl)
theorem formulasCompileSpec_reads (os : Os) {H : Type} (enc : TypeId × Value → H) : ∃ places, DataW.whole enc Tryz.prog ((laidWorld os).forCall (fun _ _ => 0) ⟨#[], #[.agg #[.string ⟨#[]⟩, .slice none 0 0, .slice none 0 0, .slice none 0 0, .int .i64 0, .int .i64 0, .int .i64 0, .string ⟨#[]⟩, .slice none 0 0, .int .i64 0], .int .i64 0, .int .i64 0, .slice none 0 0], []⟩).memory Tryz.f3.params.toList Rows.formulasCompileSpecSpec.vars false (#[.agg #[.string ⟨#[]⟩, .slice none 0 0, .slice none 0 0, .slice none 0 0, .int .i64 0, .int .i64 0, .int .i64 0, .string ⟨#[]⟩, .slice none 0 0, .int .i64 0], .int .i64 0, .int .i64 0, .slice none 0 0] : Array Value).toList 8 = some ([.agg [.lit (.string []), .nil, .nil, .nil, .agg [.lit (.int .i64 0), .lit (.int .i64 0), .lit (.int .i64 0), .lit (.string []), .nil], .lit (.int .i64 0)], .lit (.int .i64 0), .lit (.int .i64 0), .nil], [], places) :=
  ⟨[], by kernel_rfl⟩
set_option maxRecDepth 100000 in
theorem formulasCompileSpec_lifted (os : Os) (started : os.Started) (H : Type) (enc : TypeId × Value → H) (F : Stop.Interp) :
    ReturnsInHanded {} Tryz.checked os 3 .any ((OpenSpec.ofChange Rows.formulasCompileSpecSpec).preRow enc Tryz.prog Tryz.f3 Rows.formulasCompileSpecRow.domain false Rows.formulasCompileSpecRow.laid) (((OpenSpec.ofChange Rows.formulasCompileSpecSpec).at F).post enc Tryz.prog Tryz.f3 false true false false) := by
  obtain ⟨places, hx⟩ := formulasCompileSpec_reads os enc
  refine returnsInHanded_of_row (C := Tryz.checked) (s := OpenSpec.ofChange Rows.formulasCompileSpecSpec) own started (by kernel_rfl) Tryz.func3
    (witness_row_at (enc := enc) (C := Tryz.checked) false (laidWorld os) #[.agg #[.string ⟨#[]⟩, .slice none 0 0, .slice none 0 0, .slice none 0 0, .int .i64 0, .int .i64 0, .int .i64 0, .string ⟨#[]⟩, .slice none 0 0, .int .i64 0], .int .i64 0, .int .i64 0, .slice none 0 0] rfl (by kernel_rfl) (by kernel_rfl) (by kernel_rfl)
      (OpenSpec.preRow_of_cond 8 hx (by kernel_rfl) (fun k hk => by cases hk) (by kernel_rfl) (formulasCompileSpec_laid os))) ?_
  intro W base args ds gs before hval hW _ _ _ hL _ _
  refine contract_ofG _ formulasCompileSpec_facts rfl (fun ds hd => ?_) hval hW Gk (glob_of_laid hL) fun HT => ?_
  · rw [Tryz.params3] at hd
    match ds, hd with
    | [_, _, _, _], _ => rfl
  · rw [Tryz.params3] at HT
    generalize ds.map ofD = al at HT ⊢
    obtain ⟨a0, r0, rfl, q0, h0⟩ := HT.cons_inv
    obtain ⟨a1, r1, rfl, q1, h1⟩ := h0.cons_inv
    obtain ⟨a2, r2, rfl, q2, h2⟩ := h1.cons_inv
    obtain ⟨a3, r3, rfl, q3, h3⟩ := h2.cons_inv
    obtain rfl := h3.nil_inv
    obtain ⟨p, rfl, hp⟩ := pol_of q0
    obtain ⟨kind, rfl, kind1, kind2⟩ := int_of q1
    obtain ⟨value, rfl, value1, value2⟩ := int_of q2
    obtain ⟨hs, rfl, HH⟩ := hls_of q3
    exact (formulasCompileSpec_calls Gk Gk0 p kind value hs _ hp HH).mono fun _ _ h => h.2
theorem formulasCompileSpec_said : Rows.FormulasCompileSpecSaid :=
  OpenClaim.holds_of_cond 3 Tryz.f3 rfl rfl rfl rfl rfl rfl rfl ⟨rfl, rfl, rfl, rfl, rfl⟩ rfl rfl rfl rfl rfl (by kernel_rfl) Tryz.func3 (by kernel_rfl)
    (of_decide_eq_true (by kernel_rfl)) (by unfold Func.isWrapper; first | (rw [if_pos (by decide +kernel)]; kernel_rfl) | (rw [if_neg (by decide +kernel)]; exact ⟨rfl, rfl⟩))
    (fun os started H enc _ F => by rw [OpenClaim.pre_eq_preRow]; exact formulasCompileSpec_lifted os started H enc F)
theorem formulasCompileSpec_plain (f : FuncId) (fn : Func) (hf : Tryz.pinned.checked.prog.funcNamed "signatory/signatorylaw22.FormulasCompileSpec" = some f) (hfn : Tryz.pinned.checked.prog.funcs[f]? = some fn) :
    true = Tryz.pinned.checked.prog.looks [] ∧ ∀ (j : Nat) t, fn.params[j]? = some t → Tryz.pinned.checked.prog.wantsStandIn t = false := by
  obtain rfl : f = 3 := Option.some.inj ((show Tryz.prog.funcNamed "signatory/signatorylaw22.FormulasCompileSpec" = some 3 by kernel_rfl).symm.trans hf) |>.symm
  obtain rfl : fn = Tryz.f3 := (Option.some.inj (Tryz.func3.symm.trans hfn)).symm
  exact ⟨by kernel_rfl, fun j t ht => by
    rw [Tryz.params3] at ht
    have hm : t ∈ [28, 3, 29] := by simpa using Array.mem_of_getElem? ht
    have hall : ([28, 3, 29].all fun u => !Tryz.prog.wantsStandIn u) = true := by kernel_rfl
    exact (show Tryz.prog.wantsStandIn t = false by simpa using List.all_eq_true.1 hall t hm)⟩
theorem formulasCompileSpec_holds : Rows.FormulasCompileSpecCardSaid :=
  Claim7.holds_tied_plain_at .later [] _ _ _ _ formulasCompileSpec_said (fun _ h => by cases h) (by kernel_rfl) (fun _ h => by cases h) formulasCompileSpec_row_tie rfl ⟨rfl, rfl⟩ (by kernel_rfl) rfl formulasCompileSpec_plain (by kernel_rfl)
#print axioms formulasCompileSpec_holds
end Go.Proofs.YtplllkjobpjaoaaGreatDoor
