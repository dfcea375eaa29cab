/- TopPolicy holds: for every input the call returns true, and each argument reads afterwards as it read before. No conditions. (Names, blanks and walks of these texts were shortened by a program, so that the claim keeps to its size.) -/
import Derived.Test.YtmfjlankeocaoaaGreatDoorMF
import Derived.SevenTiedAt
set_option linter.all false
set_option maxRecDepth 100000
set_option maxHeartbeats 8000000
namespace Go.Proofs.YtmfjlankeocaoaaGreatDoor
open Go Go.Proofs Go.aS Go.RowKit Go.ChangeShapes Go.WideShapes Go.ChangeAt
theorem aup:Ta Tryz.prog [28,9,22,23,64,26,24,3,29,67,69,30] Tryz.f3=true:=by kernel_rfl
theorem auq(os):laidMetH Tryz.prog Rows.topPolicyRow.laid ((Tf os).forCall (fun _ _=>0) ⟨#[],#[.agg #[.string ⟨#[]⟩,.slice none 0 0,.slice none 0 0,.slice none 0 0,.int .i64 0,.int .i64 0,.int .i64 0,.string ⟨#[]⟩,.slice none 0 0,.int .i64 0],.agg #[.string ⟨#[]⟩,.slice none 0 0,.slice none 0 0,.slice none 0 0,.int .i64 0,.int .i64 0,.int .i64 0,.string ⟨#[]⟩,.slice none 0 0,.int .i64 0],.int .i64 0,.int .i64 0,.slice none 0 0,.slice none 0 0],[]⟩).memory:=
 laidMetH_of_parts3 (fuel:=8) (laidMet_of_run' 8 (by kernel_rfl) (by kernel_rfl)) (by kernel_rfl) (by kernel_rfl)
theorem aur(os){H}(enc:TypeId×Value->H):∃places,DataW.whole enc Tryz.prog ((Tf os).forCall (fun _ _=>0) ⟨#[],#[.agg #[.string ⟨#[]⟩,.slice none 0 0,.slice none 0 0,.slice none 0 0,.int .i64 0,.int .i64 0,.int .i64 0,.string ⟨#[]⟩,.slice none 0 0,.int .i64 0],.agg #[.string ⟨#[]⟩,.slice none 0 0,.slice none 0 0,.slice none 0 0,.int .i64 0,.int .i64 0,.int .i64 0,.string ⟨#[]⟩,.slice none 0 0,.int .i64 0],.int .i64 0,.int .i64 0,.slice none 0 0,.slice none 0 0],[]⟩).memory Tryz.f3.params.toList Rows.topPolicySpec.vars false (#[.agg #[.string ⟨#[]⟩,.slice none 0 0,.slice none 0 0,.slice none 0 0,.int .i64 0,.int .i64 0,.int .i64 0,.string ⟨#[]⟩,.slice none 0 0,.int .i64 0],.agg #[.string ⟨#[]⟩,.slice none 0 0,.slice none 0 0,.slice none 0 0,.int .i64 0,.int .i64 0,.int .i64 0,.string ⟨#[]⟩,.slice none 0 0,.int .i64 0],.int .i64 0,.int .i64 0,.slice none 0 0,.slice none 0 0]:Array Value).toList 8=some ([.agg [.lit (.string []),.nil,.nil,.nil,.agg [.lit (.int .i64 0),.lit (.int .i64 0),.lit (.int .i64 0),.lit (.string []),.nil],.lit (.int .i64 0)],.agg [.lit (.string []),.nil,.nil,.nil,.agg [.lit (.int .i64 0),.lit (.int .i64 0),.lit (.int .i64 0),.lit (.string []),.nil],.lit (.int .i64 0)],.lit (.int .i64 0),.lit (.int .i64 0),.nil,.nil],[],places):=
 ⟨[],by kernel_rfl⟩
theorem aus(os)(started:os.Started)(H)(enc:TypeId×Value->H)(F):
  ReturnsInHanded {} Tryz.checked os 3 .any ((OpenSpec.ofChange Rows.topPolicySpec).preRow enc Tryz.prog Tryz.f3 Rows.topPolicyRow.domain false Rows.topPolicyRow.laid) (((OpenSpec.ofChange Rows.topPolicySpec).at F).post enc Tryz.prog Tryz.f3 false true false false):=by
 obtain⟨places,hx⟩:=aur os enc;refine returnsInHanded_of_row (C:=Tryz.checked) (s:=OpenSpec.ofChange Rows.topPolicySpec) own started (by kernel_rfl) Tryz.func3
  (witness_row_at (enc:=enc) (C:=Tryz.checked) false (Tf os) #[.agg #[.string ⟨#[]⟩,.slice none 0 0,.slice none 0 0,.slice none 0 0,.int .i64 0,.int .i64 0,.int .i64 0,.string ⟨#[]⟩,.slice none 0 0,.int .i64 0],.agg #[.string ⟨#[]⟩,.slice none 0 0,.slice none 0 0,.slice none 0 0,.int .i64 0,.int .i64 0,.int .i64 0,.string ⟨#[]⟩,.slice none 0 0,.int .i64 0],.int .i64 0,.int .i64 0,.slice none 0 0,.slice none 0 0] rfl (by kernel_rfl) (by kernel_rfl) (by kernel_rfl)
   (OpenSpec.preRow_of_cond 8 hx (by kernel_rfl) (fun k hk=>by cases hk) (by kernel_rfl) (auq os))) ?_
 intro W base args ds gs before c_ hW _ _ _ hL _ _;refine amc _ aup rfl (fun ds hd=>?_) c_ hW Gk (amq hL) (amr hL) fun HT=>?_
 .rw[Tryz.params3]at hd;match ds,hd with
  |[_,_,_,_,_,_],_=>rfl
 .rw[Tryz.params3]at HT;generalize ds.map kj=al at HT|-;obtain⟨a0,r0,rfl,q0,h0⟩:=HT.cons_inv;obtain⟨a1,r1,rfl,q1,h1⟩:=h0.cons_inv;obtain⟨a2,r2,rfl,q2,h2⟩:=h1.cons_inv;obtain⟨a3,r3,rfl,q3,h3⟩:=h2.cons_inv;obtain⟨a4,r4,rfl,q4,h4⟩:=h3.cons_inv;obtain⟨a5,r5,rfl,q5,h5⟩:=h4.cons_inv;obtain rfl:=h5.JY;obtain⟨p,rfl,hp⟩:=aau q0;obtain⟨q,rfl,hq⟩:=aau q1;obtain⟨kind,rfl,aDb,aDc⟩:=xQ q2;obtain⟨value,rfl,aDd,aDe⟩:=xQ q3;obtain⟨hs,rfl,HH⟩:=al4 q4;obtain⟨who,rfl,hw⟩:=alY q5;exact(Sx.aui Gk rfl ⟨rfl,rfl⟩ (by simp[Gk]) p q kind value hs who _ hp hq HH.n HH.l hw).mono fun _ _ h=>h.2
theorem aut:Rows.TopPolicySaid:=
 OpenClaim.holds_of_cond 3 Tryz.f3 rfl rfl rfl rfl rfl rfl rfl ⟨rfl,rfl,rfl,rfl,rfl⟩ rfl rfl rfl rfl rfl (by kernel_rfl) Tryz.func3 (by kernel_rfl)
  (of_decide_eq_true (by kernel_rfl)) (by unfold Func.isWrapper;first|(rw[if_pos (by decide+kernel)];kernel_rfl)|(rw[if_neg (by decide+kernel)];exact⟨rfl,rfl⟩))
  (fun os started H enc _ F=>by rw[OpenClaim.pre_eq_preRow];exact aus os started H enc F)
theorem auu(f fn)(hf:Tryz.pinned.checked.prog.funcNamed "signatory/signatorytop.TopPolicy"=some f)(sy:Tryz.pinned.checked.prog.funcs[f]? =some fn):
  true=Tryz.pinned.checked.prog.looks []/\∀(j:Nat) t,fn.params[j]? =some t->Tryz.pinned.checked.prog.wantsStandIn t=false:=by
 obtain rfl:f=3:=Option.some.inj ((show Tryz.prog.funcNamed "signatory/signatorytop.TopPolicy"=some 3 by kernel_rfl).symm.trans hf)|>.symm;obtain rfl:fn=Tryz.f3:=(Option.some.inj (Tryz.func3.symm.trans sy)).symm;exact⟨by kernel_rfl,fun j t ht=>by
  rw[Tryz.params3]at ht;have hm:t∈[28,3,29,30]:=by simpa using Array.mem_of_getElem? ht
  have kK:([28,3,29,30].all fun u=>!Tryz.prog.wantsStandIn u)=true:=by kernel_rfl
  exact(show Tryz.prog.wantsStandIn t=false by simpa using List.all_eq_true.1 kK t hm)⟩
theorem topPolicy_holds:Rows.TopPolicyCardSaid:=
 Claim7.holds_tied_plain_at .later [] _ _ _ _ aut (fun _ h=>by cases h) (by kernel_rfl) (fun _ h=>by cases h) topPolicy_row_tie rfl ⟨rfl,rfl⟩ (by kernel_rfl) rfl auu (by kernel_rfl)
#print axioms topPolicy_holds
end Go.Proofs.YtmfjlankeocaoaaGreatDoor
