/- UnderwayNeeded holds: for every input the call returns true, and each argument reads afterwards as it read before. No conditions. -/
import Derived.Test.YtjdhgaflenhljaaDoorMrEQ
import Derived.Test.YtjdhgaflenhljaaDoorMrER
import Derived.Test.YtjdhgaflenhljaaDoorMrHK
import Derived.Test.YtjdhgaflenhljaaDoorMrHL
import Derived.SevenTiedAt
namespace Go.Proofs.YtjdhgaflenhljaaDoor
open Go Go.Proofs Go.Abs Go.RowKit Go.ChangeShapes Go.WideShapes Go.ChangeAt
set_option linter.unusedVariables false
set_option linter.unusedSimpArgs false
theorem underwayNeeded_facts : lawFacts Tryd.prog [3, 22, 4] Tryd.f4 = true := by kernel_rfl
theorem underwayNeeded_laid (os : Os) : laidMetH Tryd.prog Rows.underwayNeededRow.laid ((laidWorld os).forCall (fun _ _ => 0) ⟨#[], #[.int .i64 0, .slice none 0 0, .slice none 0 0], []⟩).memory :=
  laidMetH_of_parts3 (fuel := 8) (laidMet_of_run' 8 (by kernel_rfl) (by kernel_rfl)) (by kernel_rfl) (by kernel_rfl)
theorem underwayNeeded_reads (os : Os) {H : Type} (enc : TypeId × Value → H) : ∃ places, DataW.whole enc Tryd.prog ((laidWorld os).forCall (fun _ _ => 0) ⟨#[], #[.int .i64 0, .slice none 0 0, .slice none 0 0], []⟩).memory Tryd.f4.params.toList Rows.underwayNeededSpec.vars false (#[.int .i64 0, .slice none 0 0, .slice none 0 0] : Array Value).toList 8 = some ([.lit (.int .i64 0), .nil, .nil], [], places) :=
  ⟨[], by kernel_rfl⟩
set_option maxRecDepth 100000 in
theorem underwayNeeded_lifted (os : Os) (started : os.Started) (H : Type) (enc : TypeId × Value → H) (F : Stop.Interp) :
    ReturnsInHanded {} Tryd.checked os 4 .any ((OpenSpec.ofChange Rows.underwayNeededSpec).preRow enc Tryd.prog Tryd.f4 Rows.underwayNeededRow.domain false Rows.underwayNeededRow.laid) (((OpenSpec.ofChange Rows.underwayNeededSpec).at F).post enc Tryd.prog Tryd.f4 false true false false) := by
  obtain ⟨places, hx⟩ := underwayNeeded_reads os enc
  refine returnsInHanded_of_row (C := Tryd.checked) (s := OpenSpec.ofChange Rows.underwayNeededSpec) own started (by kernel_rfl) Tryd.func4
    (witness_row_at (enc := enc) (C := Tryd.checked) false (laidWorld os) #[.int .i64 0, .slice none 0 0, .slice none 0 0] rfl (by kernel_rfl) (by kernel_rfl) (by kernel_rfl)
      (OpenSpec.preRow_of_cond 8 hx (by kernel_rfl) (fun k hk => by cases hk) (by kernel_rfl) (underwayNeeded_laid os))) ?_
  intro W base args ds gs before hval hW _ _ _ hL _ _
  refine contract_ofG _ underwayNeeded_facts rfl (fun ds hd => ?_) hval hW Gk (glob_of_laid hL) fun HT => ?_
  · rw [Tryd.params4] at hd
    match ds, hd with
    | [_, _, _], _ => rfl
  · rw [Tryd.params4] at HT
    generalize ds.map ofD = al at HT ⊢
    obtain ⟨a0, r0, rfl, q0, h0⟩ := HT.cons_inv
    obtain ⟨a1, r1, rfl, q1, h1⟩ := h0.cons_inv
    obtain ⟨a2, r2, rfl, q2, h2⟩ := h1.cons_inv
    obtain rfl := h2.nil_inv
    obtain ⟨mode, rfl, mode1, mode2⟩ := int_of q0
    obtain ⟨p, rfl, hp⟩ := bools_of q1
    obtain ⟨q, rfl, hq⟩ := bools_of q2
    exact (lawNeeded_calls Gk Gk0 mode p q _ hp hq).mono fun _ _ h => h.2
theorem underwayNeeded_said : Rows.UnderwayNeededSaid :=
  OpenClaim.holds_of_cond 4 Tryd.f4 rfl rfl rfl rfl rfl rfl rfl ⟨rfl, rfl, rfl, rfl, rfl⟩ rfl rfl rfl rfl rfl (by kernel_rfl) Tryd.func4 (by kernel_rfl)
    (of_decide_eq_true (by kernel_rfl)) (by unfold Func.isWrapper; first | (rw [if_pos (by decide +kernel)]; kernel_rfl) | (rw [if_neg (by decide +kernel)]; exact ⟨rfl, rfl⟩))
    (fun os started H enc _ F => by rw [OpenClaim.pre_eq_preRow]; exact underwayNeeded_lifted os started H enc F)
theorem underwayNeeded_plain (f : FuncId) (fn : Func) (hf : Tryd.pinned.checked.prog.funcNamed "signatory/signatorylaw27.UnderwayNeeded" = some f) (hfn : Tryd.pinned.checked.prog.funcs[f]? = some fn) :
    true = Tryd.pinned.checked.prog.looks [] ∧ ∀ (j : Nat) t, fn.params[j]? = some t → Tryd.pinned.checked.prog.wantsStandIn t = false := by
  obtain rfl : f = 4 := Option.some.inj ((show Tryd.prog.funcNamed "signatory/signatorylaw27.UnderwayNeeded" = some 4 by kernel_rfl).symm.trans hf) |>.symm
  obtain rfl : fn = Tryd.f4 := (Option.some.inj (Tryd.func4.symm.trans hfn)).symm
  exact ⟨by kernel_rfl, fun j t ht => by
    rw [Tryd.params4] at ht
    have hm : t ∈ [3, 22] := by simpa using Array.mem_of_getElem? ht
    have hall : ([3, 22].all fun u => !Tryd.prog.wantsStandIn u) = true := by kernel_rfl
    exact (show Tryd.prog.wantsStandIn t = false by simpa using List.all_eq_true.1 hall t hm)⟩
theorem underwayNeeded_holds : Rows.UnderwayNeededCardSaid :=
  Claim7.holds_tied_plain_at .later [] _ _ _ _ underwayNeeded_said (fun _ h => by cases h) (by kernel_rfl) (fun _ h => by cases h) underwayNeeded_row_tie rfl ⟨rfl, rfl⟩ (by kernel_rfl) rfl underwayNeeded_plain (by kernel_rfl)
#print axioms underwayNeeded_holds
end Go.Proofs.YtjdhgaflenhljaaDoor
