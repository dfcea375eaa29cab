/- PermitsMore holds: for every input the call returns true, and each argument reads afterwards as it read before. No conditions. -/
import Derived.Test.YtmdiebdplakccaaDoorMrEQ
import Derived.Test.YtmdiebdplakccaaDoorMrER
import Derived.Test.YtmdiebdplakccaaDoorMrES
import Derived.SevenTiedAt
namespace Go.Proofs.YtmdiebdplakccaaDoor
open Go Go.Proofs Go.Abs Go.RowKit Go.ChangeShapes Go.WideShapes Go.ChangeAt
set_option linter.unusedVariables false
set_option linter.unusedSimpArgs false
theorem permitsMore_facts : lawFacts Tryd.prog [28, 9, 22, 23, 40, 26, 24, 3, 29, 42, 44, 30, 5] Tryd.f6 = true := by kernel_rfl
theorem permitsMore_laid (os : Os) : laidMetH Tryd.prog Rows.permitsMoreRow.laid ((laidWorld os).forCall (fun _ _ => 0) ⟨#[], #[.agg #[.string ⟨#[]⟩, .slice none 0 0, .slice none 0 0, .slice none 0 0, .int .i64 0, .int .i64 0, .int .i64 0, .string ⟨#[]⟩, .slice none 0 0, .int .i64 0], .int .i64 0, .int .i64 0, .slice none 0 0, .slice none 0 0, .int .u8 0, .int .u8 0, .int .u8 0], []⟩).memory :=
  laidMetH_of_parts3 (fuel := 8) (laidMet_of_run' 8 (by kernel_rfl) (by kernel_rfl)) (by kernel_rfl) (by kernel_rfl)
theorem permitsMore_reads (os : Os) {H : Type} (enc : TypeId × Value → H) : ∃ places, DataW.whole enc Tryd.prog ((laidWorld os).forCall (fun _ _ => 0) ⟨#[], #[.agg #[.string ⟨#[]⟩, .slice none 0 0, .slice none 0 0, .slice none 0 0, .int .i64 0, .int .i64 0, .int .i64 0, .string ⟨#[]⟩, .slice none 0 0, .int .i64 0], .int .i64 0, .int .i64 0, .slice none 0 0, .slice none 0 0, .int .u8 0, .int .u8 0, .int .u8 0], []⟩).memory Tryd.f6.params.toList Rows.permitsMoreSpec.vars false (#[.agg #[.string ⟨#[]⟩, .slice none 0 0, .slice none 0 0, .slice none 0 0, .int .i64 0, .int .i64 0, .int .i64 0, .string ⟨#[]⟩, .slice none 0 0, .int .i64 0], .int .i64 0, .int .i64 0, .slice none 0 0, .slice none 0 0, .int .u8 0, .int .u8 0, .int .u8 0] : Array Value).toList 8 = some ([.agg [.lit (.string []), .nil, .nil, .nil, .agg [.lit (.int .i64 0), .lit (.int .i64 0), .lit (.int .i64 0), .lit (.string []), .nil], .lit (.int .i64 0)], .lit (.int .i64 0), .lit (.int .i64 0), .nil, .nil, .lit (.int .u8 0), .lit (.int .u8 0), .lit (.int .u8 0)], [], places) :=
  ⟨[], by kernel_rfl⟩
set_option maxRecDepth 100000 in
theorem permitsMore_lifted (os : Os) (started : os.Started) (H : Type) (enc : TypeId × Value → H) (F : Stop.Interp) :
    ReturnsInHanded {} Tryd.checked os 6 .any ((OpenSpec.ofChange Rows.permitsMoreSpec).preRow enc Tryd.prog Tryd.f6 Rows.permitsMoreRow.domain false Rows.permitsMoreRow.laid) (((OpenSpec.ofChange Rows.permitsMoreSpec).at F).post enc Tryd.prog Tryd.f6 false true false false) := by
  obtain ⟨places, hx⟩ := permitsMore_reads os enc
  refine returnsInHanded_of_row (C := Tryd.checked) (s := OpenSpec.ofChange Rows.permitsMoreSpec) own started (by kernel_rfl) Tryd.func6
    (witness_row_at (enc := enc) (C := Tryd.checked) false (laidWorld os) #[.agg #[.string ⟨#[]⟩, .slice none 0 0, .slice none 0 0, .slice none 0 0, .int .i64 0, .int .i64 0, .int .i64 0, .string ⟨#[]⟩, .slice none 0 0, .int .i64 0], .int .i64 0, .int .i64 0, .slice none 0 0, .slice none 0 0, .int .u8 0, .int .u8 0, .int .u8 0] rfl (by kernel_rfl) (by kernel_rfl) (by kernel_rfl)
      (OpenSpec.preRow_of_cond 8 hx (by kernel_rfl) (fun k hk => by cases hk) (by kernel_rfl) (permitsMore_laid os))) ?_
  intro W base args ds gs before hval hW _ _ _ hL _ _
  refine contract_ofG _ permitsMore_facts rfl (fun ds hd => ?_) hval hW Gk (glob_of_laid hL) fun HT => ?_
  · rw [Tryd.params6] at hd
    match ds, hd with
    | [_, _, _, _, _, _, _, _], _ => rfl
  · rw [Tryd.params6] at HT
    generalize ds.map ofD = al at HT ⊢
    obtain ⟨a0, r0, rfl, q0, h0⟩ := HT.cons_inv
    obtain ⟨a1, r1, rfl, q1, h1⟩ := h0.cons_inv
    obtain ⟨a2, r2, rfl, q2, h2⟩ := h1.cons_inv
    obtain ⟨a3, r3, rfl, q3, h3⟩ := h2.cons_inv
    obtain ⟨a4, r4, rfl, q4, h4⟩ := h3.cons_inv
    obtain ⟨a5, r5, rfl, q5, h5⟩ := h4.cons_inv
    obtain ⟨a6, r6, rfl, q6, h6⟩ := h5.cons_inv
    obtain ⟨a7, r7, rfl, q7, h7⟩ := h6.cons_inv
    obtain rfl := h7.nil_inv
    obtain ⟨p, rfl, hp⟩ := pol_of q0
    obtain ⟨kind, rfl, kind1, kind2⟩ := int_of q1
    obtain ⟨value, rfl, value1, value2⟩ := int_of q2
    obtain ⟨hs, rfl, HH⟩ := hls_of q3
    obtain ⟨who, rfl, hw⟩ := ints_of q4
    obtain ⟨person, rfl, person1, person2⟩ := u8_of q5
    obtain ⟨office, rfl, office1, office2⟩ := u8_of q6
    obtain ⟨weight, rfl, weight1, weight2⟩ := u8_of q7
    exact (permitsMore_calls Gk Gk0 p kind value hs who person office weight _ hp HH hw ⟨person1, person2⟩ ⟨office1, office2⟩ ⟨weight1, weight2⟩).mono fun _ _ h => h.2
theorem permitsMore_said : Rows.PermitsMoreSaid :=
  OpenClaim.holds_of_cond 6 Tryd.f6 rfl rfl rfl rfl rfl rfl rfl ⟨rfl, rfl, rfl, rfl, rfl⟩ rfl rfl rfl rfl rfl (by kernel_rfl) Tryd.func6 (by kernel_rfl)
    (of_decide_eq_true (by kernel_rfl)) (by unfold Func.isWrapper; first | (rw [if_pos (by decide +kernel)]; kernel_rfl) | (rw [if_neg (by decide +kernel)]; exact ⟨rfl, rfl⟩))
    (fun os started H enc _ F => by rw [OpenClaim.pre_eq_preRow]; exact permitsMore_lifted os started H enc F)
theorem permitsMore_plain (f : FuncId) (fn : Func) (hf : Tryd.pinned.checked.prog.funcNamed "signatory/signatorylaw21.PermitsMore" = some f) (hfn : Tryd.pinned.checked.prog.funcs[f]? = some fn) :
    true = Tryd.pinned.checked.prog.looks [] ∧ ∀ (j : Nat) t, fn.params[j]? = some t → Tryd.pinned.checked.prog.wantsStandIn t = false := by
  obtain rfl : f = 6 := Option.some.inj ((show Tryd.prog.funcNamed "signatory/signatorylaw21.PermitsMore" = some 6 by kernel_rfl).symm.trans hf) |>.symm
  obtain rfl : fn = Tryd.f6 := (Option.some.inj (Tryd.func6.symm.trans hfn)).symm
  exact ⟨by kernel_rfl, fun j t ht => by
    rw [Tryd.params6] at ht
    have hm : t ∈ [28, 3, 29, 30, 5] := by simpa using Array.mem_of_getElem? ht
    have hall : ([28, 3, 29, 30, 5].all fun u => !Tryd.prog.wantsStandIn u) = true := by kernel_rfl
    exact (show Tryd.prog.wantsStandIn t = false by simpa using List.all_eq_true.1 hall t hm)⟩
theorem permitsMore_holds : Rows.PermitsMoreCardSaid :=
  Claim7.holds_tied_plain_at .later [] _ _ _ _ permitsMore_said (fun _ h => by cases h) (by kernel_rfl) (fun _ h => by cases h) permitsMore_row_tie rfl ⟨rfl, rfl⟩ (by kernel_rfl) rfl permitsMore_plain (by kernel_rfl)
#print axioms permitsMore_holds
end Go.Proofs.YtmdiebdplakccaaDoor
