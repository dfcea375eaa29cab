/- FormulasPermits holds: for every input the call returns true, and each argument reads afterwards as it read before. No conditions. -/
import Derived.Test.YtplllkjobpjaoaaDoorMrEQ
import Derived.Test.YtplllkjobpjaoaaDoorMrER
import Derived.Test.YtplllkjobpjaoaaDoorMrFF
import Derived.SevenTiedAt
namespace Go.Proofs.YtplllkjobpjaoaaDoor
open Go Go.Proofs Go.Abs Go.RowKit Go.ChangeShapes Go.WideShapes Go.ChangeAt
set_option linter.unusedVariables false
set_option linter.unusedSimpArgs false
theorem formulasPermits_facts : lawFacts Tryd.prog [28, 9, 22, 23, 51, 26, 24, 3, 29, 52, 72, 30] Tryd.f3 = true := by kernel_rfl
theorem formulasPermits_laid (os : Os) : laidMetH Tryd.prog Rows.formulasPermitsRow.laid ((laidWorld os).forCall (fun _ _ => 0) ⟨#[], #[.agg #[.string ⟨#[]⟩, .slice none 0 0, .slice none 0 0, .slice none 0 0, .int .i64 0, .int .i64 0, .int .i64 0, .string ⟨#[]⟩, .slice none 0 0, .int .i64 0], .int .i64 0, .int .i64 0, .slice none 0 0, .slice none 0 0], []⟩).memory :=
  laidMetH_of_parts3 (fuel := 8) (laidMet_of_run' 8 (by kernel_rfl) (by kernel_rfl)) (by kernel_rfl) (by kernel_rfl)
theorem formulasPermits_reads (os : Os) {H : Type} (enc : TypeId × Value → H) : ∃ places, DataW.whole enc Tryd.prog ((laidWorld os).forCall (fun _ _ => 0) ⟨#[], #[.agg #[.string ⟨#[]⟩, .slice none 0 0, .slice none 0 0, .slice none 0 0, .int .i64 0, .int .i64 0, .int .i64 0, .string ⟨#[]⟩, .slice none 0 0, .int .i64 0], .int .i64 0, .int .i64 0, .slice none 0 0, .slice none 0 0], []⟩).memory Tryd.f3.params.toList Rows.formulasPermitsSpec.vars false (#[.agg #[.string ⟨#[]⟩, .slice none 0 0, .slice none 0 0, .slice none 0 0, .int .i64 0, .int .i64 0, .int .i64 0, .string ⟨#[]⟩, .slice none 0 0, .int .i64 0], .int .i64 0, .int .i64 0, .slice none 0 0, .slice none 0 0] : Array Value).toList 8 = some ([.agg [.lit (.string []), .nil, .nil, .nil, .agg [.lit (.int .i64 0), .lit (.int .i64 0), .lit (.int .i64 0), .lit (.string []), .nil], .lit (.int .i64 0)], .lit (.int .i64 0), .lit (.int .i64 0), .nil, .nil], [], places) :=
  ⟨[], by kernel_rfl⟩
set_option maxRecDepth 100000 in
theorem formulasPermits_lifted (os : Os) (started : os.Started) (H : Type) (enc : TypeId × Value → H) (F : Stop.Interp) :
    ReturnsInHanded {} Tryd.checked os 3 .any ((OpenSpec.ofChange Rows.formulasPermitsSpec).preRow enc Tryd.prog Tryd.f3 Rows.formulasPermitsRow.domain false Rows.formulasPermitsRow.laid) (((OpenSpec.ofChange Rows.formulasPermitsSpec).at F).post enc Tryd.prog Tryd.f3 false true false false) := by
  obtain ⟨places, hx⟩ := formulasPermits_reads os enc
  refine returnsInHanded_of_row (C := Tryd.checked) (s := OpenSpec.ofChange Rows.formulasPermitsSpec) own started (by kernel_rfl) Tryd.func3
    (witness_row_at (enc := enc) (C := Tryd.checked) false (laidWorld os) #[.agg #[.string ⟨#[]⟩, .slice none 0 0, .slice none 0 0, .slice none 0 0, .int .i64 0, .int .i64 0, .int .i64 0, .string ⟨#[]⟩, .slice none 0 0, .int .i64 0], .int .i64 0, .int .i64 0, .slice none 0 0, .slice none 0 0] rfl (by kernel_rfl) (by kernel_rfl) (by kernel_rfl)
      (OpenSpec.preRow_of_cond 8 hx (by kernel_rfl) (fun k hk => by cases hk) (by kernel_rfl) (formulasPermits_laid os))) ?_
  intro W base args ds gs before hval hW _ _ _ hL _ _
  refine contract_ofG _ formulasPermits_facts rfl (fun ds hd => ?_) hval hW Gk (glob_of_laid hL) fun HT => ?_
  · rw [Tryd.params3] at hd
    match ds, hd with
    | [_, _, _, _, _], _ => rfl
  · rw [Tryd.params3] at HT
    generalize ds.map ofD = al at HT ⊢
    obtain ⟨a0, r0, rfl, q0, h0⟩ := HT.cons_inv
    obtain ⟨a1, r1, rfl, q1, h1⟩ := h0.cons_inv
    obtain ⟨a2, r2, rfl, q2, h2⟩ := h1.cons_inv
    obtain ⟨a3, r3, rfl, q3, h3⟩ := h2.cons_inv
    obtain ⟨a4, r4, rfl, q4, h4⟩ := h3.cons_inv
    obtain rfl := h4.nil_inv
    obtain ⟨p, rfl, hp⟩ := pol_of q0
    obtain ⟨kind, rfl, kind1, kind2⟩ := int_of q1
    obtain ⟨value, rfl, value1, value2⟩ := int_of q2
    obtain ⟨hs, rfl, HH⟩ := hls_of q3
    obtain ⟨who, rfl, hw⟩ := ints_of q4
    exact (formulasPermits_calls Gk Gk0 p kind value hs who _ hp HH hw).mono fun _ _ h => h.2
theorem formulasPermits_said : Rows.FormulasPermitsSaid :=
  OpenClaim.holds_of_cond 3 Tryd.f3 rfl rfl rfl rfl rfl rfl rfl ⟨rfl, rfl, rfl, rfl, rfl⟩ rfl rfl rfl rfl rfl (by kernel_rfl) Tryd.func3 (by kernel_rfl)
    (of_decide_eq_true (by kernel_rfl)) (by unfold Func.isWrapper; first | (rw [if_pos (by decide +kernel)]; kernel_rfl) | (rw [if_neg (by decide +kernel)]; exact ⟨rfl, rfl⟩))
    (fun os started H enc _ F => by rw [OpenClaim.pre_eq_preRow]; exact formulasPermits_lifted os started H enc F)
theorem formulasPermits_plain (f : FuncId) (fn : Func) (hf : Tryd.pinned.checked.prog.funcNamed "signatory/signatorylaw22.FormulasPermits" = some f) (hfn : Tryd.pinned.checked.prog.funcs[f]? = some fn) :
    true = Tryd.pinned.checked.prog.looks [] ∧ ∀ (j : Nat) t, fn.params[j]? = some t → Tryd.pinned.checked.prog.wantsStandIn t = false := by
  obtain rfl : f = 3 := Option.some.inj ((show Tryd.prog.funcNamed "signatory/signatorylaw22.FormulasPermits" = some 3 by kernel_rfl).symm.trans hf) |>.symm
  obtain rfl : fn = Tryd.f3 := (Option.some.inj (Tryd.func3.symm.trans hfn)).symm
  exact ⟨by kernel_rfl, fun j t ht => by
    rw [Tryd.params3] at ht
    have hm : t ∈ [28, 3, 29, 30] := by simpa using Array.mem_of_getElem? ht
    have hall : ([28, 3, 29, 30].all fun u => !Tryd.prog.wantsStandIn u) = true := by kernel_rfl
    exact (show Tryd.prog.wantsStandIn t = false by simpa using List.all_eq_true.1 hall t hm)⟩
theorem formulasPermits_holds : Rows.FormulasPermitsCardSaid :=
  Claim7.holds_tied_plain_at .later [] _ _ _ _ formulasPermits_said (fun _ h => by cases h) (by kernel_rfl) (fun _ h => by cases h) formulasPermits_row_tie rfl ⟨rfl, rfl⟩ (by kernel_rfl) rfl formulasPermits_plain (by kernel_rfl)
#print axioms formulasPermits_holds
end Go.Proofs.YtplllkjobpjaoaaDoor
