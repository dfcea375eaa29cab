/- Parts of the proof of TopPolicy, joined: FrMinC..LinK. No conditions. -/
import Derived.Test.YtmfjlankeocaoaaGreatDoorMD
set_option linter.all false
set_option maxRecDepth 100000
set_option maxHeartbeats 8000000
namespace Go.Proofs.YtmfjlankeocaoaaGreatDoor.Fr
open Go Go.Proofs Go.aS
theorem az.apr{P Γ f args h R}(H:az P Γ f args h fun v h'=>R (loose v) h'):az P Γ f args h R:=
 ⟨H.1,fun G w vs hI hv=>(H.2 G w vs hI hv).mono fun e w' hr=>by obtain⟨v,G',av,h',k1,k2,k3,k4,k5⟩:=hr;exact⟨v,G',_,h',k1,k2,k3,Jh k4,k5⟩⟩
theorem acN(H j k:AH)(q)(hq:q<j.length):(H++(j++k))[H.length+q]? =j[q]? :=by grind
theorem aps(H j k:AH)(q)(hq:q<j.length)(o):(H++(j++k)).set (H.length+q) o=H++(j.set q o++k):=by grind
theorem apt(Γ H j k T v l)(hv:nx H.length j T v (encI l))(hl:l.length<=1000000):
  az Tryz.prog Γ 123 [v] (H++(j++k)) fun _ h'=>∃j',j'.length=j.length/\h'=H++(j'++k)/\nx H.length j' T v (encI (qO l)):=by
 rcases hv with⟨rfl,h0⟩|⟨q,c,pad,rfl,h2,h3,h4⟩
 .have pM:l=[]:=by cases l with|nil=>rfl|cons x r=>simp[encI]at h0
  subst pM;exact(anM Γ .full _).mono fun v h' e=>⟨j,rfl,e,.inl ⟨rfl,rfl⟩⟩
 .have hq:=(List.getElem?_eq_some_iff.1 h2).1;rw[cc];refine(aoU Γ (H.length+q) c T l pad _ (by rw[acN _ _ _ _ hq];exact h2) (by omega)).mono fun v h' e=>?_;refine⟨j.set q (.row (encI (qO l)++pad) T),by simp,by rw[e.2,aps _ _ _ _ hq],.inr ⟨q,c,pad,?_,by simp[hq],?_,h4⟩⟩
  .rw[cc,(zn l).length_eq]
  .rw[h3,cc,cc,(zn l).length_eq]
theorem apu(Γ H j k T v l)(hv:nx H.length j T v (encI l))(hl:l.length<=1000000):
  az Tryz.prog Γ 124 [v] (H++(j++k)) fun v' h'=>v'= .sl (encI (Go.Lib.compact l)) .free/\∃j',j'.length=j.length/\h'=H++(j'++k):=by
 have he:=enters_of Tryz.func124 (by kernel_rfl) rfl;rcases hv with⟨rfl,h0⟩|⟨q,c,pad,rfl,h2,h3,h4⟩
 .have pM:l=[]:=by cases l with|nil=>rfl|cons x r=>simp[encI]at h0
  subst pM;refine az.apr ((apa (Γ:=Γ) Tryz.acu (f:=124) (by kernel_rfl) he _).mono fun v h' e=>?_);obtain⟨rfl,rfl⟩:=e;exact⟨rfl,j,rfl,rfl⟩
 .have hq:=(List.getElem?_eq_some_iff.1 h2).1;rw[cc];have hg:(H++(j++k))[H.length+q]? =some (.row (encI l++pad) T):=by rw[acN _ _ _ _ hq];exact h2
  have hc:l.length<=c:=by rw[h3,cc];omega
  have dG:=acy l;refine az.freeze ((ao_ (Γ:=Γ) Tryz.acu (f:=124) (by kernel_rfl) he (H.length+q) c T l pad _ hg (by omega) hc).mono fun v h' e=>?_);obtain⟨rfl,rfl⟩:=e;have e1:∀o,((H++(j++k)).set (H.length+q) o)[H.length+q]? =some o:=fun o=>by grind
  refine⟨_,_,_,_,e1 _,jM.set (e1 _),?_,?_⟩
  .have e2:(Go.Lib.compact l++List.replicate (l.length-(Go.Lib.compact l).length) 0).map (fun x=>AV.int .i64 x)++pad=encI (Go.Lib.compact l)++(encI (List.replicate (l.length-(Go.Lib.compact l).length) 0)++pad):=by rw[List.map_append,List.append_assoc];rfl
   rw[e2];refine anJ _ c _ _ (by omega) fun a ha=>?_;rcases List.mem_append.1 ha with ha|ha
   .obtain⟨x,_,rfl⟩:=List.mem_map.1 ha;rfl
   .exact h4 a ha
  simp_all
mutual
theorem acO(x:Int):∀g:Gt,iM g=true->(x∈sa g<->r9 x g=true)
 | .mk p n l,hr=>by
  rw[sa,r9];by_cases hp:0<=p
  .simp only[iM,if_pos hp,Bool.and_eq_true,List.isEmpty_iff,decide_eq_true_eq]at hr;obtain⟨⟨h1,h2⟩,rfl⟩:=hr;simp[nV,hp,eq_comm]
  .rw[if_neg hp,acP x l (T9 hp hr).2];simp[hp]
theorem acP(x:Int):∀l:List Gt,qM l=true->(x∈pF l<->nV x l=true)
 |[],_=>by simp[pF,nV]
 |g::r,hr=>by simp only[qM,Bool.and_eq_true]at hr;rw[pF,nV,List.mem_append,acO x g hr.1,acP x r hr.2,Bool.or_eq_true]
end
theorem apv{g}(h:dp g=0):Go.Lib.compact (qO (sa g))=cm g:=by obtain⟨h1,h2⟩:=apb (J8 (sa g));refine lt_eq h1 (wx h) fun x=>?_;rw[h2,(zn _).mem_iff,acO x g (zm h),OQ (zm h)]
def acQ:List Int->Bool
 |[]=>true
 |[_]=>true
 |x::y::r=>decide (x<y)&&acQ (y::r)
def qR(l:List (List Int))(s:List Int):Bool:=l.any fun a=>decide (∀x∈a,x∈s)
theorem EP(l s):qR l s=true<->∃a∈l,∀x∈a,x∈s:=by simp[qR]
def apw(ae:List (List Int))(s:List Int):Bool:=match ae.getLast? with
 |none=>true
 |some t=>beforeF t s
def abv(P:List Int)(ae:List (List Int))(s:List Int):Bool:=acQ s&&decide (∀x∈s,x∈P)&&apw ae s&&ae.all fun t=>!decide (∀x∈t,x∈s)
theorem acR{P fine}(hP:P.Pairwise (·<·))(hm:CP P fine){s}(hs:s.Sublist P):qR (qa P fine) s=fine s:=by
 rw[Bool.eq_iff_iff,EP];constructor
 .rintro⟨a,h1,h2⟩;have:=(zu hP a).1 h1;exact hm a s this.1 hs h2 this.2.1
 .intro h;obtain⟨t,h1,h2⟩:=acD hP hs h;exact⟨t,(zu hP t).2 h1,h2⟩
theorem acS(P s):(oB P s).Sublist P:=List.filter_sublist
theorem apx{g}(s):A8 g s=!qQ g (oB (cm g) s):=rfl
def jt(g:Gt):List (List Int):=qa (cm g) (qQ g)
def x9(g:Gt):List (List Int):=qa (cm g) (A8 g)
def oD(g:Gt):List AV:=(List.range (2^(cm g).length)).map fun s=> .bool (qQ g (fS (cm g) s))
def qV(g:Gt):AV:= .agg [.sl (encI (cm g)) .free,.int .u64 ((2^(cm g).length-1:Nat):Int),.func 127 [] [.bS [.sl (oD g) .free]]]
def Un:AV:= .agg [.sl [] .free,.int .u64 0,.nilFunc]
def OW(g:Gt):AV:=if fi g=0 then .tuple [qV g,.int .i64 0]else .tuple [Un,.int .i64 (fi g)]
theorem KP(k g):RB k (.func 127 [] [.bS [.sl (oD g) .free]])=True:=eq_true (.func (bB.nil _) (bB.cons (.bS (bB.cons (.qo fun r hr=>by obtain⟨x,_,rfl⟩:=List.mem_map.1 hr;exact .bool _) (bB.nil _))) (bB.nil _)))
theorem apy{g}(h:dp g=0)(s):A2 (fun p=>decide (p∈fS (cm g) s)) g=qQ g (fS (cm g) s):=by rw[abd _ g (zm h),qQ,(KH h (KO h (uf _ s))).2]
theorem wo{i j o cs}(h:j≠i):dd i cs (.ptr (some (j,o)))= .ptr (some (j,o)):=by rw[dd,if_neg h]
theorem apz(i o cs):dd i cs (.ptr (some (i,o)))= .bS (cs.drop o):=by rw[dd,if_pos rfl]
theorem TQ(i N cs)(h1:cs.length=N)(h2:∀c∈cs,c.isAgg=false):dd i cs (.ms i 0 N N 1)= .sl cs .free:=by
 have eD:tQ cs 0 N N 1=true:=by simp only[tQ,Bool.and_eq_true,decide_eq_true_eq,List.all_eq_true,Bool.not_eq_true'];grind
 rw[dd,if_pos ⟨rfl,eD⟩,List.drop_zero,DS _ _ (by omega),<-h1,List.take_length]
theorem apA(k):kL k [AV.bool false]=List.replicate k (.bool false):=by
 induction k with
 |zero=>rfl
 |succ k ih=>simp only[kL,List.replicate_succ,List.flatten_cons]at ih|-;rw[ih];rfl
def wy(g:Gt)(N s:Nat):List AV:=(List.range s).map (fun i=> .bool (qQ g (fS (cm g) i)))++List.replicate (N-s) (.bool false)
theorem acT(g N s)(h:s<=N):(wy g N s).length=N:=by simp[wy];omega
theorem apB(g N):wy g N 0=List.replicate N (.bool false):=by simp[wy]
theorem apC(g N s)(h:s<N):(wy g N s).set s (.bool (qQ g (fS (cm g) s)))=wy g N (s+1):=by obtain⟨k,rfl⟩:∃k,N=s+(k+1):=⟨N-s-1,by omega⟩;rw[wy,wy,show s+(k+1)-s=k+1 from by omega,show s+(k+1)-(s+1)=k from by omega,List.replicate_succ,List.range_succ,List.map_append,List.append_assoc];grind
theorem acU(Γ g h)(hs:Sh g):
  AC Γ 63 [bM g] h (OW g):=by
 cases g with|mk p n gl=>
 have c0:=fun h=>GC Γ (.mk p n gl) h hs;rw[OW];generalize hG:(Gt.mk p n gl)=G at*;have eG:bM G= .agg [.int .i64 p,.int .i64 n,.sl (gl.map bM) .free]:=by rw[<-hG,iu]
 refine az.ji ?_;rw[eG]at c0|-;refine cY [.cell 2 115,.tmp 3] Tryz.func63 ?_;refine bL (c0 _) ?_;refine aJ.intro (fun A9=>?_) (fun A9=>?_)<;>simp(disch:=omega) only[go_sem,seval];rotate_left
 .have:fi G=dp G:=by rw[fi,if_neg A9]
  rw[if_neg (by omega),this];exact⟨.nilFunc,rfl⟩
 have Uo:=J9 A9;have c1:=fun h=>ao9 Γ G h hs (by omega);rw[eG]at c1;refine az.then (c1 _) ?_
 rintro v _ ⟨j,rfl,hv⟩;have Up:v.cells=[v]:=by rcases hv with⟨rfl,_⟩|⟨q,c,pad,rfl,_⟩<;>rfl
 have Uq:v.nA=true:=by rcases hv with⟨rfl,_⟩|⟨q,c,pad,rfl,_⟩<;>rfl
 obtain⟨K,hK⟩:∃K:AH,K=h++[.row [.int .i64 p,.int .i64 n,.sl (gl.map bM) .free] 49,.row [.sl [] .full,.int .u64 0,.nilFunc] 115]:=⟨_,rfl⟩;have Kl:K.length=h.length+2:=by rw[hK];simp
 have KX:∀X:AH,h++ .row [.int .i64 p,.int .i64 n,.sl (gl.map bM) .free] 49:: .row [.sl [] .full,.int .u64 0,.nilFunc] 115::X=K++X:=fun X=>by rw[hK];simp
 have KD:∀j:AH,∃l,K++j=h++l:=by subst hK;intro j;exact⟨_,List.append_assoc ..⟩
 rw[<-hK]at hv;have ho:=Ue G;have Kc:∀(j:AH) r X,(K++(j++r::X))[h.length+2+j.length]? =some r:=by intro j r X;rw[<-Kl,nK];simp
 have Kt:∀(j:AH) r X r',(K++(j++r::X)).set (h.length+2+j.length) r'=K++(j++r'::X):=by intro j r X r';rw[<-Kl,mq];simp
 simp(disch:=omega) only[go_sem,seval,Up,Uq,KX,iU];refine az.then (apt Γ K j _ _ v _ hv (by omega)) ?_
 rintro _ _ ⟨j1,Nl,rfl,N1⟩;rw[<-Nl];clear hv Nl;simp(disch:=omega) only[go_sem,seval];refine az.then (apu Γ K j1 _ _ v _ N1 (by rw[(zn _).length_eq];omega)) ?_
 rintro _ _ ⟨rfl,j2,RV,rfl⟩;rw[<-RV];clear N1 RV;rw[apv A9];simp(disch:=omega) only[go_sem,seval,cc];obtain⟨B,hB⟩:∃B:AH,B=K++j2:=⟨_,rfl⟩;have Bl:K.length+j2.length=B.length:=by rw[hB,List.length_append]
 have BX:∀X,K++(j2++X)=B++X:=fun X=>by rw[hB,List.append_assoc]
 have Bg:∀X:AH,(B++X)[h.length]? =some (.row [.int .i64 p,.int .i64 n,.sl (gl.map bM) .free] 49):=fun X=>by rw[hB,hK,List.append_assoc,List.append_assoc];simp
 have Bq:∀X:AH,(B++X)[h.length+1]? =some (.row [.sl [] .full,.int .u64 0,.nilFunc] 115):=fun X=>by rw[hB,hK,List.append_assoc,List.append_assoc];simp
 have Bs:∀(X:AH) r,(B++X).set (h.length+1) r=B.set (h.length+1) r++X:=fun X r=>List.set_append_left _ _ (by rw[hB,List.length_append];omega);have BD:∀X:AH,∃l,B++X=h++l:=fun X=>by grind
 rw[BX,Bl];clear Kc Kt;refine aJ.intro (fun sO=>?_) (fun sO=>?_)<;>simp(disch:=omega) only[go_sem,seval]
 .have:fi G=2:=by rw[fi,if_pos A9,if_pos sO]
  have Bs0:∀X:AH,(B++X).set (h.length+1) (.row [.sl [] .full,.int .u64 0,.nilFunc] 115)=B++X:=fun X=>ph (Bq X);simp(disch:=omega) only[go_sem,seval,Bq,Bs0];rw[if_neg (by omega),this];exact⟨BD _,.nilFunc,rfl⟩
 have zv:(cm G).length<=12:=by omega
 have apL:fi G=0:=by rw[fi,if_pos A9,if_neg sO]
 have hP:=wx A9;have vo:2^(cm G).length<=2^12:=Nat.pow_le_pow_right (by decide) zv;have AZ:1<=2^(cm G).length:=Nat.one_le_two_pow;have hw:IntKind.i64.wrap (1*2^min (cm G).length 64)=((2^(cm G).length:Nat):Int):=by
  have e:(1*2^min (cm G).length 64:Int)=((2^(cm G).length:Nat):Int):=by rw[Nat.min_eq_left (by omega),Int.one_mul];simp
  rw[e,IntWalk.i64_in _ ⟨by omega,by omega⟩]
 simp(disch:=omega) only[go_sem,seval,cc];simp only[hw,Int.toNat_natCast,apA];obtain⟨N,hN⟩:∃N:Nat,N=2^(cm G).length:=⟨_,rfl⟩;rw[<-hN]at vo AZ|-;refine⟨by omega,by omega,by omega,by omega,?_⟩;obtain⟨KW,A_⟩:∃KW:List AV->AH,∀c,KW c=B++[.row [.sl (encI (cm G)) .free] 30,.row [CO B.length (B.length+1)] 188,.row c 4,.row [.ms (B.length+2) 0 N N 1] 190]:=⟨_,fun _=>rfl⟩;have W0:∀c,(KW c)[h.length]? =some (.row [.int .i64 p,.int .i64 n,.sl (gl.map bM) .free] 49):=fun c=>by rw[A_];exact Bg _
 have W4:∀c,(KW c)[B.length]? =some (.row [.sl (encI (cm G)) .free] 30):=fun c=>by rw[A_];simp
 have W5:∀c,(KW c)[B.length+1]? =some (.row [CO B.length (B.length+1)] 188):=fun c=>by rw[A_];simp
 have W6:∀c,(KW c)[B.length+2]? =some (.row c 4):=fun c=>by rw[A_];simp
 have W7:∀c,(KW c)[B.length+3]? =some (.row [.ms (B.length+2) 0 N N 1] 190):=fun c=>by rw[A_];simp
 have WS:∀c c',(KW c).set (B.length+2) (.row c' 4)=KW c':=fun c c'=>by rw[A_,A_,mq];rfl
 refine vU (α:=Nat) [1,2,4,5,6,30,31] (fun s=>[(1,.ptr (some (h.length,0))),(2,.ptr (some (h.length+1,0))),(4,.ptr (some (B.length,0))),(5,.ptr (some (B.length+1,0))),(6,.ptr (some (B.length+3,0))),(30,.int .i64 N),(31,.int .i64 s)])
  (fun s=>KW (wy G N s)) (fun s=>s<=N) (fun s=>N-s) 0 ?_ (by rw[A_,apB];rfl) (by omega) Ty.mixed (by kernel_rfl) ?_
 .exact dL
 intro s hsN;refine aU ?_;refine aJ.intro (fun Uu=>?_) (fun Uu=>?_)<;>simp(disch:=omega) only[go_sem,seval]
 .have c2:=fun l=>apf Γ (cm G) s (by omega) zv (OU hP) G (KW (wy G N s)++l) B.length (B.length+1) hs (fun q hq=>(OQ (zm A9) q).2 hq) (by grind) (by grind);simp only[eG,apy A9]at c2;simp(disch:=omega) only[go_sem,seval,W0,W5,W7,CO];rw[IntWalk.u64_in _ ⟨by omega,by omega⟩];refine gY.intro c2 ?_;simp(disch:=omega) only[go_sem,seval,W6,WS,acT G N s (by omega)];refine⟨by omega,by omega,sJ (s+1) (by omega) (by omega) ?_ ?_⟩
  .exact dL
  .rw[Nat.zero_add,Nat.mul_one,apC G N s (by omega)]
 obtain rfl:s=N:=by omega
 have hBh:h.length+2<=B.length:=by rw[hB,List.length_append];omega
 have hk:wy G s s=oD G:=by rw[wy,Nat.sub_self,List.replicate_zero,List.append_nil,oD,hN]
 rw[hk];have rI:(oD G).length=s:=by rw[<-hk,acT G s s (by omega)]
 have uo:=TQ (B.length+2) s (oD G) rI (fun c hc=>by obtain⟨x,_,rfl⟩:=List.mem_map.1 hc;rfl);refine bu (bw.keep [1,2,4,5,6]) ?_;refine bw.freeze (W6 _) (jM.row (jM.set (W6 _)) (j:=B.length+3) (by omega) (W7 _)) ?_;rw[show fB (B.length+2) (oD G) [.ms (B.length+2) 0 s s 1]=[.sl (oD G) .free]from by rw[TG,abo,uo]];have hg3:∀o,(((KW (oD G)).set (B.length+2) .frozen).set (B.length+3) o)[B.length+3]? =some o:=fun o=>by grind
 refine bw.freeze (hg3 _) (jM.set (hg3 _)) ?_;have eH:(((KW (oD G)).set (B.length+2) .frozen).set (B.length+3) (.row [.sl (oD G) .free] 190)).set (B.length+3) .frozen=B++[.row [.sl (encI (cm G)) .free] 30,.row [CO B.length (B.length+1)] 188,.frozen,.frozen]:=by rw[A_,mq,mq,mq];rfl
 rw[eH];simp only[List.map_cons,List.map_nil];rw[wo (by omega),wo (by omega),wo (by omega),wo (by omega),wo (by omega),wo (by omega),wo (by omega),wo (by omega),wo (by omega),apz];rw[List.drop_zero];refine gO ?_;have OX:IntKind.u64.wrap (IntKind.u64.wrap (1*2^min (cm G).length 64)-1)=((2^(cm G).length-1:Nat):Int):=by
  have e:(1*2^min (cm G).length 64:Int)=((2^(cm G).length:Nat):Int):=by rw[Nat.min_eq_left (by omega),Int.one_mul];simp
  rw[e,<-hN,show IntKind.u64.wrap (s:Int)=s from IntWalk.u64_in _ ⟨by omega,by omega⟩,IntWalk.u64_in _ ⟨by omega,by omega⟩];omega
 have hBl:h.length+1<B.length:=by omega
 have Bq2:∀(X:AH) r,(B.set (h.length+1) r++X)[h.length+1]? =some r:=fun X r=>by rw[List.getElem?_append_left (by simpa using hBl),List.getElem?_set_self hBl]
 have BD2:∀(X:AH) r,∃l,B.set (h.length+1) r++X=h++l:=fun X r=>by rw[hB,hK,List.append_assoc,mq,List.append_assoc];exact⟨_,rfl⟩
 simp(disch:=omega) only[go_sem,seval,Bq,Bs,cc,Bq2];rw[if_pos apL,OX];refine⟨BD2 _ _,?_,?_⟩
 .exact of_eq_true (KP _ G)
 .rfl
attribute [go_sem] KP
def afk(g:Gt):AV:= .func 127 [] [.bS [.sl (oD g) .free]]
theorem as6(g s)(h:s<2^(cm g).length):(oD g)[s]? =some (.bool (qQ g (fS (cm g) s))):=by simp[oD,h]
theorem Ly{n}(h:n<=12):2^n<=4096:=Nat.pow_le_pow_right (by decide) h
theorem afl(Γ g)(s:Nat)(h)(hn:(cm g).length<=12)(hs:s<2^(cm g).length):
  AC Γ 127 [.int .u64 s,.bS [.sl (oD g) .free]] h (.bool (qQ g (fS (cm g) s))):=by
 have e1:=as6 g s hs;have hp:=Ly hn;refine az.drop ?_;refine cS [.tmp 3] Tryz.func127 ?_;simp(disch:=omega) only[go_sem,seval,e1]
theorem as7(Γ g)(s:Nat)(h)(hc:dp g=0)(hn:(cm g).length<=12)(hs:s<2^(cm g).length):
  AC Γ 115 [qV g,.int .u64 s] h (.bool (A8 g (fS (cm g) s))):=by
 have hp:=Ly hn;have AZ:1<=2^(cm g).length:=Nat.one_le_two_pow;have hle:=Ul (2^(cm g).length-1) s (by omega);have hb:BE .andNot .u64 ((2^(cm g).length-1:Nat):Int) (s:Int)=(andNot (2^(cm g).length-1) s:Nat):=by show IntKind.u64.wrap ((BitVec.ofInt 64 ((2^(cm g).length-1:Nat):Int)&&&~~~BitVec.ofInt 64 (s:Int)).toNat:Int)=_;rw[BitVec.ofInt_natCast,BitVec.ofInt_natCast];show IntKind.u64.wrap ((andNot (2^(cm g).length-1) s:Nat):Int)=_;exact IntWalk.u64_in _ ⟨by omega,by omega⟩
 refine az.drop ?_;rw[qV];refine cY [.tmp 4] Tryz.func115 ?_;rw[hb];refine bL (afl Γ g _ _ hn (by omega)) ?_;rw[apq (wx hc) hn];rfl
def wq(l:List Nat):List AV:=l.map fun s:Nat=> .int .u64 (s:Int)
theorem as8(Γ g)(s:Nat)(h)(hn:(cm g).length<=12)(hs:s<2^(cm g).length):
  AC Γ 129 [qV g,.int .u64 s] h (.sl (encI (fS (cm g) s)) .free):=by
 have hp:=Ly hn;generalize hPe:cm g=P at*;refine az.ji ?_;rw[qV,hPe];refine cS [.tmp 4] Tryz.func129 ?_;simp(disch:=omega) only[go_sem,seval,cc];obtain⟨K,hK⟩:∃K:AH,K=h++[.row [.sl (encI P) .free,.int .u64 ((2^P.length-1:Nat):Int),.func 127 [] [.bS [.sl (oD g) .free]]] 115]:=⟨_,rfl⟩;have KD:∀j:AH,∃l,K++j=h++l:=by subst hK;intro j;exact⟨_,List.append_assoc ..⟩
 refine oO (β:=FlS) P [1,5,10,11,12] (fun ae s1=>[(1,.int .u64 s),(5,.sl (encI s1.l) s1.own),(10,.sl (encI P) .free),(11,.int .i64 P.length),(12,.int .i64 ae.length)])
  (fun s1=>K++s1.j) (fun ae rest s1=>fX K s1.j s1.l.length s1.own/\s1.l.length<=ae.length/\fS P s=s1.l++fS rest (s/2^ae.length)) ⟨[],.full,[]⟩ ?_ (by simp[hK]) ⟨trivial,by simp,by simp⟩ Ty.mixed (by kernel_rfl) ?_ ?_
 .simp(disch:=omega) only[go_sem,seval,encI,List.map_nil]
 .rintro ae x r ⟨l,own,j⟩ hd ⟨ho,kV,hx⟩;simp only at ho kV hx|-;have hlen:P.length=ae.length+1+r.length:=by rw[hd];simp;omega
  have e1:(encI P)[ae.length]? =some (.int .i64 x):=by rw[hd];simp[encI]
  have JB:s/2^ae.length<=s:=Nat.div_le_self _ _;rw[fS,Nat.div_div_eq_div_mul,<-Nat.pow_succ]at hx;simp(disch:=omega) only[go_sem,seval];refine aJ.pos (by omega) ?_;simp(disch:=omega) only[go_sem,seval,e1];rw[Nat.min_eq_left (by omega),fdiv_pow,Uh _ (by omega)];refine aJ.intro (fun kg=>?_) (fun kg=>?_)<;>simp(disch:=omega) only[go_sem,seval]
  .rw[if_pos (by omega)]at hx;refine pV (by rw[cc];exact ho) (lL _) (lL [x]) (by simp[cc];omega) (by simp[cc];omega) fun j' eY tY hg=>?_;rw[Oy];refine aU ?_;refine cd ⟨l++[x],eY,j'⟩ ⟨?_,?_,?_⟩ ?_ rfl
   .simpa [cc]using tY
   .simp;omega
   .rw[hx];simp
   .simp(disch:=omega) only[go_sem,seval,List.length_append]
  .rw[if_neg (by omega)]at hx;refine cd ⟨l,own,j⟩ ⟨ho,by simp;omega,?_⟩ ?_ rfl
   .rw[hx];simp
   .simp(disch:=omega) only[go_sem,seval,List.length_append]
 .rintro⟨l,own,j⟩ ⟨ho,kV,hx⟩;simp only at ho kV hx|-;simp(disch:=omega) only[go_sem,seval];refine fE [5] ?_;rw[fS,List.append_nil]at hx;rw[hx];exact⟨KD _,rfl⟩
def afm(g:Gt)(fv:AV):AV:= .func 191 [] [.bS [.sl (encI (cm g)) .free,.int .u64 ((2^(cm g).length-1:Nat):Int),afk g],.bS [fv]]
structure PL(g:Gt)(fine:List Int->Bool)(fn:FuncId)(fs cs:List AV):Prop where
 calls:∀(Γ:GG) (s:Nat) (h:AH),s<2^(cm g).length->AC Γ fn (fs++ .int .u64 s::cs) h (.bool (fine (fS (cm g) s)))
 fz:∀i c,fB i c fs=fs/\fB i c cs=cs
 loose:aS.loose (.func fn fs cs)= .func fn fs cs
 rb:∀n,RB n (.func fn fs cs)
theorem as_{g}(hn:(cm g).length<=12):PL g (qQ g) 127 [] [.bS [.sl (oD g) .free]]:=
 ⟨fun Γ s h hs=>afl Γ g s h hn hs,fun _ _=>⟨rfl,rfl⟩,rfl,fun n=>of_eq_true (KP n g)⟩
theorem ata{g}(hc:dp g=0)(hn:(cm g).length<=12):PL g (A8 g) 115 [qV g] []:=
 ⟨fun Γ s h hs=>as7 Γ g s h hc hn hs,fun i c=>⟨by simp only[qV,fB,dd,Kk],rfl⟩,rfl,fun n=> .func (bB.cons (.agg (bB.cons (of_eq_true (pZ _ _)) (bB.cons (.int _ _) (bB.cons (of_eq_true (KP n g)) (bB.nil _))))) (bB.nil _)) (bB.nil _)⟩
theorem atb(Γ g fine fn fs cs h)(hf:PL g fine fn fs cs):
  AC Γ 128 [qV g,.func fn fs cs] h (afm g (.func fn fs cs)):=by
 refine az.ji ?_;refine az.freeze ?_;refine az.freeze ?_;rw[qV];refine cY [.tmp 4] Tryz.func128 ?_;have e1:∀a b:cO,(h++[a,b])[h.length]? =some a:=fun a b=>by simp
 have e2:∀a b:cO,((h++[a,b]).set h.length .frozen)[h.length+1]? =some b:=fun a b=>by grind
 have e4:∀a b:cO,∃l,((h++[a,b]).set h.length .frozen).set (h.length+1) .frozen=h++l:=fun a b=>⟨[.frozen,.frozen],by simp_all⟩;refine⟨h.length,_,_,_,e1 _ _,jM.set (e1 _ _),h.length+1,_,_,_,e2 _ _,jM.set (e2 _ _),e4 _ _,?_,?_⟩
 .simp only[dd,fB,if_true,List.drop_zero];rw[if_neg (by omega)];simp only[dd,if_true,List.drop_zero,loose];exact .func (bB.nil _) (bB.cons (.bS (bB.cons (of_eq_true (pZ _ _)) (bB.cons (.int _ _) (bB.cons (of_eq_true (KP _ g)) (bB.nil _))))) (bB.cons (.bS (bB.cons (hf.rb _) (bB.nil _))) (bB.nil _)))
 .simp only[dd,fB,if_true,List.drop_zero];rw[if_neg (by omega)];simp only[dd,if_true,List.drop_zero,loose];rfl
def C8(P:List Int)(fine:List Int->Bool)(s k:Nat):Bool:=fine (fS P s)&&(List.range k).all fun i=>!s.testBit i||!fine (fS P (andNot s (2^i)))
theorem atc(P fine s k):C8 P fine s (k+1)=(C8 P fine s k&&(!s.testBit k||!fine (fS P (andNot s (2^k))))):=by rw[C8,C8,List.range_succ,List.all_append,Bool.and_assoc];simp
theorem atd(P fine s):C8 P fine s P.length=KM P fine s:=rfl
theorem ate(s k):(s/2^k%2=0)<->s.testBit k=false:=by grind
theorem atf(s i:Nat)(hs:s<4096)(hi:i<12):BE .andNot .u64 (s) ((2^i:Nat):Int)=(andNot s (2^i):Nat):=by have hle:=Ul s (2^i) (by omega);show IntKind.u64.wrap ((BitVec.ofInt 64 (s:Int)&&&~~~BitVec.ofInt 64 ((2^i:Nat):Int)).toNat:Int)=_;rw[BitVec.ofInt_natCast,BitVec.ofInt_natCast];show IntKind.u64.wrap ((andNot s (2^i):Nat):Int)=_;exact IntWalk.u64_in _ ⟨by omega,by omega⟩
def yj(j:AH):Prop:=∀ob∈j,∀st pe li,ob≠ .loop st pe li
theorem yj.set{j}(h:yj j)(q cs T):yj (j.set q (.row cs T)):=fun ob ho st pe li e=>by
 rcases List.mem_or_eq_of_mem_set ho with ho|rfl
 .exact h ob ho st pe li e
 .cases e
theorem yj.snoc{j}(h:yj j)(cs T):yj (j++[.row cs T]):=fun ob ho st pe li e=>by
 rcases List.mem_append.1 ho with ho|ho
 .exact h ob ho st pe li e
 grind
theorem atg{v x xs ys h j T by_ z Q}(hv:nx h.length j T v xs)(hj:yj j)(hs:qi x (h++j) ys)(hx:db 1 ys)(hf:flat ys=ys)(cV:ys≠[])
  (qj:xs.length+ys.length<=9223372036854775807)(nD:(xs.length+ys.length)*by_<=140737488355328)(H:∀v' j',nx h.length j' T v' (xs++ys)->yj j'->Q v' (h++j')):uH (some (1,by_,z,T)) v x (h++j) Q:=by
 refine⟨ys,hs,hx,?_⟩;rcases hv with⟨rfl,rfl⟩|⟨q,c,pad,rfl,h2,h3,h4⟩
 .refine⟨by simpa using qj,by simpa using nD,fun e=>absurd e cV,fun _ c hc=>?_⟩;rw[hf,List.append_assoc];have:=H (.ms (h++j).length 0 ys.length c 1) (j++[.row (ys++List.replicate ((c-ys.length)*1) .top) T]) (.inr ⟨j.length,c,List.replicate (c-ys.length) .top,by simp,by simp,by simp;omega,fun a ha=>by rw[List.eq_of_mem_replicate ha];rfl⟩) (hj.snoc _ _);simpa using this
 .have hq:=(List.getElem?_eq_some_iff.1 h2).1;have hg:(h++j)[h.length+q]? =some (.row (xs++pad) T):=by rw[nK];exact h2
  refine⟨rfl,qj,nD,by omega,?_⟩;rw[hg];refine⟨by simp;omega,fun hle=>?_,fun dN c' qt=>?_⟩
  .have:=H (.ms (h.length+q) 0 (xs.length+ys.length) c 1) (j.set q (.row (xs++ys++pad.drop ys.length) T)) (.inr ⟨q,c,pad.drop ys.length,by simp,by simp[hq],by simp;omega,fun a ha=>h4 a (List.mem_of_mem_drop ha)⟩) (hj.set _ _ _);rw[mq,hf];rw[show iU (xs++pad) (0+xs.length*1) ys=xs++ys++pad.drop ys.length from abn (by omega)];exact this
  .have:=H (.ms (h++j).length 0 (xs.length+ys.length) c' 1) (j++[.row (xs++ys++List.replicate ((c'-(xs.length+ys.length))*1) .top) T]) (.inr ⟨j.length,c',List.replicate (c'-(xs.length+ys.length)) .top,by simp,by simp,by simp;omega,fun a ha=>by rw[List.eq_of_mem_replicate ha];rfl⟩) (hj.snoc _ _);rw[hf];simpa using this
theorem ath{h X}(hX:yj X)(Y)(i:Nat)(ob)(e:(h++X)[i]? =some ob):(h++Y)[i]? =some ob\/∀(st) (pe) (li),¬ob= .loop st pe li:=by
 by_cases hi:i<h.length
 .grind
 .rw[List.getElem?_append_right (by omega)]at e;exact .inr fun st pe li=>hX ob (List.mem_of_getElem? e) st pe li
theorem ati(l):flat (bD l)=bD l:=by
 induction l with
 |nil=>rfl
 |cons x l ih=>
  have:flat (AV.sl (encI x) .free::bD l)=AV.sl (encI x) .free::flat (bD l):=rfl;rw[show bD (x::l)= .sl (encI x) .free::bD l from rfl,this,ih]
theorem afn(P fine n):(oX P fine n).length<=n:=by rw[oX,List.length_map];grind
theorem atj(Γ o fv h):
  az Tryz.prog Γ 238 [.sl [] o,.int .i64 0,.int .i64 0,fv] h fun v h'=>h'=h:=by
 refine cY [] Tryz.func238 ?_;refine vU (α:=Unit) [2,8] (fun s=>[(2,.int .i64 0),(8,.int .i64 1)]) (fun s=>h) (fun s=>True) (fun _=>0) () ?_ rfl trivial Ty.mixed (by kernel_rfl) ?_
 .exact dL
 rintro _ _;exact dL;first|(refine jL [] ?_;simp(disch:=omega) only[go_sem,seval])|skip
theorem atk(Γ o fv m h):
  az Tryz.prog Γ 192 [.sl [] o,.int .i64 0,.int .i64 0,.int .i64 m,fv] h fun v h'=>h'=h:=by
 refine cY [] Tryz.func192 ?_;refine vU (α:=Unit) [0,1,2,3,4,10,11] (fun _=>[(0,.sl [] o),(1,.int .i64 0),(2,.int .i64 0),(3,.int .i64 m),(4,fv),(10,.bool true),(11,.bool true)])
  (fun _=>h) (fun _=>True) (fun _=>0) () ?_ rfl trivial Ty.mixed (by kernel_rfl) ?_
 .exact dL
 rintro _ _;refine aU ?_;refine az.then (atj Γ o fv _) ?_
 rintro _ _ rfl;exact dL
theorem atl(Γ o fv h):
  az Tryz.prog Γ 130 [.sl [] o,fv] h fun v h'=>h'=h:=by
 refine cY [] Tryz.func130 ?_;rw[IntWalk.u64_in _ ⟨by omega,by omega⟩];refine az.then (abl Γ _ _ (by omega) (by omega)) ?_
 rintro _ _ ⟨rfl,m,rfl⟩;refine aU ?_;refine az.then (atk Γ o fv m _) ?_
 rintro _ _ rfl;exact dL
theorem atm(i c l pad)(hc:l.length<=c)(hp:∀a∈pad,a.isAgg=false):dd i (bD l++pad) (.ms i 0 l.length c 1)= .sl (bD l) .free:=by
 rw[dd,if_pos,List.drop_zero,DS _ _ (by simp[jG]),List.take_append_of_le_length (by simp[jG]),<-jG l,List.take_length];refine⟨rfl,?_⟩;simp only[tQ,Bool.and_eq_true,decide_eq_true_eq,bne_iff_ne,List.all_eq_true,Bool.not_eq_true',List.length_append,jG];refine⟨⟨⟨by omega,hc⟩,by decide⟩,fun a ha=>?_⟩;rcases List.mem_append.1 ha with ha|ha
 .obtain⟨x,_,rfl⟩:=List.mem_map.1 ha;rfl
 .exact hp a ha
structure YlS where
 s:Nat
 v:AV
 j:AH
theorem afo(Γ g fine fn fs cs h)(oe:dp g=0)(hn:(cm g).length<=12)(hm:CP (cm g) fine)(hf:PL g fine fn fs cs):
  AC Γ 64 [qV g,.func fn fs cs] h (.tuple [.sl (bD (if 256<(qa (cm g) fine).length then[]else qa (cm g) fine)) .free,.int .i64 (if 256<(qa (cm g) fine).length then 2 else 0)]):=by
 have hP:=wx oe;have hp:=Ly hn;have AZ:1<=2^(cm g).length:=Nat.one_le_two_pow;have c1:=fun h=>atb Γ g fine fn fs cs h hf;have c2:=fun s h hs=>as8 Γ g s h hn hs;refine az.anG ?_;rw[qV]at c1 c2|-;obtain⟨N,hN⟩:∃N:Nat,N=2^(cm g).length:=⟨_,rfl⟩;rw[afm,afk]at c1;rw[<-hN]at c1 c2 hp AZ|-;refine bu (Ko (rs:=[.cell 4 58,.tmp 5]) Tryz.func64 rfl rfl rfl rfl rfl Ty.mixed (by kernel_rfl)) ?_;refine bL (c1 _) ?_;refine bu (bw.keep [2,4,5,9,1000000]) ?_;refine RQ rfl (fun li iZ=>?_);refine aU ?_;obtain⟨QR,hQR⟩:∃QR:cO,QR= .row [.sl (encI (cm g)) .free,.int .u64 ((N-1:Nat):Int),.func 127 [] [.bS [.sl (oD g) .free]]] 115:=⟨_,rfl⟩;obtain⟨K,hK⟩:∃K:AV->cO->AH,K=fun v lo=>h++[QR,.row [v] 58,lo]:=⟨_,rfl⟩;have s5:∀v lo,(K v lo).length=h.length+3:=by subst hK;simp
 have Kq:∀v lo j,(K v lo++j)[h.length]? =some (.row [.sl (encI (cm g)) .free,.int .u64 ((N-1:Nat):Int),.func 127 [] [.bS [.sl (oD g) .free]]] 115):=by subst hK hQR;simp
 have Kv:∀v lo j,(K v lo++j)[h.length+1]? =some (.row [v] 58):=by subst hK;simp
 have Kl:∀v lo j,(K v lo++j)[h.length+2]? =some lo:=by subst hK;simp
 have Sv:∀v lo j v',(K v lo++j).set (h.length+1) (.row [v'] 58)=K v' lo++j:=by subst hK;simp
 have Sl:∀v lo j J6,(K v lo++j).set (h.length+2) J6=K v J6++j:=by subst hK;simp
 rw[<-hQR];refine az.heap (h1:=K (.sl [] .full) (.loop .ready none li)++[]) ?_ (by subst hK;simp);refine cY [] Tryz.func191 ?_;refine vU (α:=YlS) [0,1,2,4] (fun x=>[(0,.yield (h.length+2)),(1,.bS [.sl (encI (cm g)) .free,.int .u64 ((N-1:Nat):Int),.func 127 [] [.bS [.sl (oD g) .free]]]),(2,.bS [.func fn fs cs]),(4,.int .u64 x.s)])
  (fun x=>K x.v (.loop .ready none li)++x.j) (fun x=>x.s<=N/\nx (h.length+3) x.j 30 x.v (bD (oX (cm g) fine x.s))/\yj x.j) (fun x=>N-x.s) ⟨0,.sl [] .full,[]⟩ ?_ (by simp) ⟨by simp,.inl ⟨rfl,rfl⟩,fun _ h=>by simp at h⟩ Ty.mixed (by kernel_rfl) ?_
 .exact dL
 rintro⟨s,v,j⟩ ⟨hs,hv,hj⟩;simp only at hs hv hj|-;refine aU ?_;refine aJ.intro (fun Uu=>?_) (fun Uu=>?_)<;>simp(disch:=omega) only[go_sem,seval];rotate_left
 .obtain rfl:s=N:=by omega
  have hX:yj ([QR,.row [v] 58,.dead]++j):=fun ob ho st pe li e=>by
   rcases List.mem_append.1 ho with ho|ho
   .grind
   .exact hj ob ho st pe li e
  refine⟨h++[QR,.row [v] 58],.ready,none,j,by subst hK;simp,by simp,fun i ob e=>?_,by simp,?_⟩
  .refine ath hX _ i ob ?_;simpa using e
  rw[Cf];have eK:h++[QR,.row [v] 58]++ .dead::j=K v .dead++j:=by subst hK;simp
  rw[eK];refine aU ?_;have Dj:(oX (cm g) fine s).length=(qa (cm g) fine).length:=by rw[hN];exact acK hP hn hm
  have atp:=afn (cm g) fine s;have KD:∀v lo j,∃l,K v lo++j=h++l:=by subst hK;intro v lo j;exact⟨_,List.append_assoc ..⟩
  rcases hv with⟨rfl,h0⟩|⟨q,c,pad,rfl,h2,h3,h4⟩
  .have pM:(qa (cm g) fine).length=0:=by rw[<-Dj,<-jG,h0];rfl
   have iT:qa (cm g) fine=[]:=List.length_eq_zero_iff.1 pM;refine jL [2,4,5] ?_;simp(disch:=omega) only[go_sem,seval,Kv,List.length_nil];refine az.then (atl Γ _ _ _) ?_
   rintro _ _ rfl;simp(disch:=omega) only[go_sem,seval,Kv,Sv];grind
  .rw[jG]at h3|-;refine jL [2,4,5] ?_;simp(disch:=omega) only[go_sem,seval,Kv];refine aJ.intro (fun atq=>?_) (fun atq=>?_)<;>simp(disch:=omega) only[go_sem,seval]
   .simp(disch:=omega) only[go_sem,seval,Kv,Sv];rw[if_pos (by omega),if_pos (by omega)];exact⟨KD _ _ _,.inl rfl⟩
   simp(disch:=omega) only[go_sem,seval,Kv];have hg:∀u,(K u .dead++j)[h.length+3+q]? =some (.row (bD (oX (cm g) fine s)++pad) 30):=fun u=>by rw[<-s5 u .dead,nK];exact h2
   have hgs:∀u r,(K u .dead++j).set (h.length+3+q) r=K u .dead++j.set q r:=fun u r=>by rw[<-s5 u .dead,mq]
   refine az.then (ao6 Γ (h.length+3+q) c 30 (oX (cm g) fine s) pad _ (hg _) (by omega) (fun x hx=>?_)) ?_
   .obtain⟨m,_,rfl⟩:=List.mem_map.1 hx;have:=(uf (cm g) m).length_le;omega
   rintro _ _ ⟨rfl,vj,p1,p2,rfl⟩;rw[hgs];have iX:vj=qa (cm g) fine:=apo hP hn hm (by rw[<-hN];exact p1) p2;simp(disch:=omega) only[go_sem,seval,Kv,Sv];rw[if_neg (by omega),if_neg (by omega),<-iX];have iD:(oX (cm g) fine s).length=vj.length:=p1.length_eq.symm;refine⟨KD _ _ _,.inr ⟨3+q,bD vj++pad,30,?_,?_⟩⟩
   .grind
   .rw[<-Nat.add_assoc,iD,anH,TG,TG,abo,atm _ _ _ _ (by omega) h4,anI];simp only[loose,eI,J_];exact⟨RB.tuple' (bB.cons (of_eq_true (wm _ _)) (bB.cons (.int _ _) (bB.nil _))),trivial⟩
 have hsN:s<N:=by omega
 have cf:=fun h=>hf.calls Γ s h (by omega);refine az.cv ((cf _).args (by simp)) ?_;simp(disch:=omega) only[go_sem,seval,cc];refine vU (α:=Nat) [0,1,2,4,5,18,19] (fun i=>[(0,.yield (h.length+2)),(1,.bS [.sl (encI (cm g)) .free,.int .u64 ((N-1:Nat):Int),.func 127 [] [.bS [.sl (oD g) .free]]]),(2,.bS [.func fn fs cs]),(4,.int .u64 s),(5,.bool (C8 (cm g) fine s i)),(18,.int .i64 (cm g).length),(19,.int .i64 i)])
  (fun _=>K v (.loop .ready none li)++j) (fun i=>i<=(cm g).length) (fun i=>(cm g).length-i) 0 ?_ rfl (by simp) Ty.mixed (by kernel_rfl) ?_
 .refine aU ?_;simp[C8]
 .intro i hi;have Fa:=atc (cm g) fine s i;generalize qz:C8 (cm g) fine s i=b at Fa|-;refine aU ?_;refine aJ.intro (fun S2=>?_) (fun S2=>?_)<;>simp(disch:=omega) only[go_sem,seval]
  .have hi3:i<(cm g).length:=by omega
   have hsi:s/2^i<=s:=Nat.div_le_self _ _;have hle:=Ul s (2^i) (by omega);have cg:=fun h=>hf.calls Γ (andNot s (2^i)) h (by omega);have att:IntKind.u64.wrap (1*2^min i 64)=((2^i:Nat):Int):=by
    have e:(1*2^min i 64:Int)=((2^i:Nat):Int):=by rw[Nat.min_eq_left (by omega),Int.one_mul];simp
    have:=Ly (n:=i) (by omega);rw[e];generalize(2^i:Nat)=M at this|-;exact IntWalk.u64_in _ ⟨by omega,by omega⟩
   have atu:BE .and .u64 ((s:Int).fdiv (2^min i 64)) 1=(s/2^i%2:Nat):=by rw[Nat.min_eq_left (by omega),fdiv_pow,Uh _ (by omega)]
   cases b with
   |false=>
    refine aU ?_;refine sJ (i+1) (by omega) (by omega) ?_ rfl;simp(disch:=omega) only[go_sem,seval,Fa,Bool.false_and]
   |true=>
    refine aU ?_;rw[atu];refine aJ.intro (fun kg=>?_) (fun kg=>?_)
    .have kg:s.testBit i=false:=(ate s i).1 (by omega);refine aU ?_;refine sJ (i+1) (by omega) (by omega) ?_ rfl;simp(disch:=omega) only[go_sem,seval,Fa,kg,Bool.not_false,Bool.true_or,Bool.and_self]
    .have kg:s.testBit i=true:=by grind
     refine aU ?_;rw[att,atf s i (by omega) (by omega)];refine bu (gY.intro (fun _=>(cg _).args (by simp))) ?_;refine sJ (i+1) (by omega) (by omega) ?_ rfl;simp(disch:=omega) only[go_sem,seval,Fa,kg,Bool.not_true,Bool.false_or,Bool.true_and]
  obtain rfl:i=(cm g).length:=by omega
  rw[atd]at qz;refine fE [0,1,2,4,5] ?_;have hwr:IntKind.u64.wrap ((s:Int)+1)=((s+1:Nat):Int):=IntWalk.u64_in _ ⟨by omega,by omega⟩;have yo:=apn (cm g) fine s;rw[qz]at yo;cases b with
  |false=>
   refine aU ?_;refine fE [0,1,2,4] ?_;refine sJ ⟨s+1,v,j⟩ (by simp only;omega) ⟨by simp only;omega,?_,hj⟩ ?_ rfl
   .grind
   .simp(disch:=omega) only[go_sem,seval,hwr]
  |true=>
   refine aU ?_;have atp:=afn (cm g) fine s;refine Ni iZ (Kl _ _ _) rfl rfl Ty.mixed (by kernel_rfl) ?_;simp(disch:=omega) only[go_sem,seval,Kl,Sl];refine jZ (Y4 [[0,1,2,3,4,5,6],[0,2,1,3,4,5,6],[1,0,2,3,4,5,6],[1,2,0,3,4,5,6],[1,2,3,0,4,5,6],[1,2,3,4,0,5,6],[2,0,1,3,4,5,6],[2,1,0,3,4,5,6],[2,1,3,0,4,5,6],[2,1,3,4,0,5,6]] (by kernel_rfl) Ty.mixed (by kernel_rfl) ?_);intro o ho;simp only[List.mem_cons,List.not_mem_nil,or_false]at ho;rcases ho with rfl|rfl|rfl|rfl|rfl|rfl|rfl|rfl|rfl|rfl;all_goals simp only[List.filterMap_cons,List.filterMap_nil,List.getElem?_toArray,List.getElem?_cons_zero,List.getElem?_cons_succ]
   all_goals
    simp(disch:=omega) only[go_sem,seval,Kv,Kq];refine az.cv (c2 s _ hsN) ?_;simp(disch:=omega) only[go_sem,seval,Kv];refine⟨by omega,rfl,by simp[AV.cells,AV.one],?_⟩;simp(disch:=omega) only[go_sem,seval,Kv,List.append_assoc,List.length_append];refine atg (xs:=bD (oX (cm g) fine s)) (ys:=bD [fS (cm g) s]) (by rw[s5];exact hv.more _) (hj.snoc _ _) ⟨[.sl (encI (fS (cm g) s)) .free],30,?_,rfl,by simp,by simp[AV.one],rfl⟩ (anz _) (ati _) (by simp[bD]) ?_ ?_ fun v' j' oa jU=>?_
    .rw[nK];simp[flat,AV.cells]
    .simp only[jG,List.length_cons,List.length_nil];omega
    .simp only[jG,List.length_cons,List.length_nil];omega
    have Up:v'.cells=[v']:=by rcases oa with⟨rfl,_⟩|⟨_,_,_,rfl,_⟩<;>rfl
    have Uq:v'.nA=true:=by rcases oa with⟨rfl,_⟩|⟨_,_,_,rfl,_⟩<;>rfl
    simp(disch:=omega) only[go_sem,seval,Kv,Kl,Sv,Sl,Up,Uq,iU];refine jL [0,1,2,4] ?_;simp(disch:=omega) only[go_sem,seval];refine sJ ⟨s+1,v',j'⟩ (by simp only;omega) ⟨by simp only;omega,?_,jU⟩ ?_ rfl
    .simp only;rw[yo,if_pos rfl,anx,<-s5 v (.loop .busy none li)];exact oa
    .simp(disch:=omega) only[go_sem,seval,hwr]
def aag(l:List (List Int)):Bool:=l.all (fun s=>decide (s.length<=12))&&decide (l.length<=40)
def Hz(g:Gt)(b:Bool):List Int->Bool:=if b then A8 g else qQ g
def iv(g:Gt)(b:Bool):List (List Int)×Int:=if fi g=0 then(if 256<(qa (cm g) (Hz g b)).length then([],2)else(qa (cm g) (Hz g b),0))else([],fi g)
def encS(r:List (List Int)×Int):AV:= .tuple [.sl (bD r.1) .free,.int .i64 r.2]
theorem HB(Γ g h)(hs:Sh g):
  AC Γ 22 [bM g] h (encS (iv g false)):=by
 cases g with|mk p n l=>
 have c0:=fun h=>acU Γ (.mk p n l) h hs;rw[encS,iv];generalize hG:(Gt.mk p n l)=G at*;have eG:bM G= .agg [.int .i64 p,.int .i64 n,.sl (l.map bM) .free]:=by rw[<-hG,iu]
 rw[eG]at c0|-;rw[OW]at c0;refine az.ji ?_;refine cY [.tmp 2,.tmp 3] Tryz.func22 ?_;by_cases he:fi G=0
 .rw[if_pos he]at c0|-;obtain⟨oe,Uo,zv⟩:=Kf he;have c1:=fun h=>afo Γ G (qQ G) _ _ _ h oe zv (Um oe) (as_ zv);rw[qV]at c0 c1;refine bL (c0 _) ?_;refine bL (c1 _) ?_;rw[show Hz G false=qQ G from rfl];split<;>rfl
 .rw[if_neg he]at c0|-;rw[Un]at c0;refine bL (c0 _) ?_;refine bu (aJ.neg he) ?_;rfl
theorem atv(Γ g h)(hs:Sh g):
  AC Γ 49 [bM g] h (encS (iv g true)):=by
 cases g with|mk p n l=>
 have c0:=fun h=>acU Γ (.mk p n l) h hs;rw[encS,iv];generalize hG:(Gt.mk p n l)=G at*;have eG:bM G= .agg [.int .i64 p,.int .i64 n,.sl (l.map bM) .free]:=by rw[<-hG,iu]
 rw[eG]at c0|-;rw[OW]at c0;refine az.ji ?_;refine cY [.tmp 2,.tmp 3] Tryz.func49 ?_;by_cases he:fi G=0
 .rw[if_pos he]at c0|-;obtain⟨oe,Uo,zv⟩:=Kf he;have c1:=fun h=>afo Γ G (A8 G) _ _ _ h oe zv (acM oe) (ata oe zv);rw[qV]at c0 c1;refine bL (c0 _) ?_;refine bL (c1 _) ?_;rw[show Hz G true=A8 G from rfl];split<;>rfl
 .rw[if_neg he]at c0|-;rw[Un]at c0;refine bL (c0 _) ?_;refine bu (aJ.neg he) ?_;rfl
theorem El{P:List Int}(hP:P.Pairwise (·<·)){a b:Nat}{u v}(ha:P[a]? =some u)(hb:P[b]? =some v)(h:a<b):u<v:=by obtain⟨Ax,rfl⟩:=List.getElem?_eq_some_iff.1 ha;obtain⟨fI,rfl⟩:=List.getElem?_eq_some_iff.1 hb;exact List.pairwise_iff_getElem.1 hP a b Ax fI h
theorem SV(Γ x h):AC Γ 261 [.int .i64 x] h (.bool false):=by refine az.drop ?_;exact xB [.tmp 2] Tryz.func261
theorem SY(Γ P x h)(hP:P.Pairwise (·<·))(hl:P.length<=1000):
  az Tryz.prog Γ 212 [.sl (encI P) .free,.int .i64 x] h fun v h'=>h'=h/\∃k:Nat,v= .tuple [.int .i64 k,.bool (decide (x∈P))]/\(x∈P->P[k]? =some x):=by
 refine cS [.tmp 4,.tmp 5] Tryz.func212 ?_;simp(disch:=omega) only[go_sem,seval,cc];refine vU (α:=Nat×Nat) [0,1,6,7,8] (fun s=>[(0,.sl (encI P) .free),(1,.int .i64 x),(6,.int .i64 P.length),(7,.int .i64 s.1),(8,.int .i64 s.2)]) (fun _=>h)
  (fun s=>s.1<=s.2/\s.2<=P.length/\(∀k y,P[k]? =some y->k<s.1->y<x)/\∀k y,P[k]? =some y->s.2<=k->x<=y) (fun s=>s.2-s.1) (0,P.length) ?_ rfl ⟨by simp,by simp,by simp,fun k y e hk=>by grind⟩ Ty.mixed (by kernel_rfl) ?_
 .exact dL
 rintro⟨i,j⟩ ⟨h1,h2,h3,h4⟩;simp only at h1 h2 h3 h4|-;refine aU ?_;refine aJ.intro (fun nf=>?_) (fun nf=>?_)<;>simp(disch:=omega) only[go_sem,seval]
 .obtain⟨m,hm⟩:∃m,m=(i+j)/2:=⟨_,rfl⟩;have SZ:IntKind.i64.wrap ((IntKind.u64.wrap ((i:Int)+(j:Int))).fdiv (2^min 1 64))=(m:Int):=by rw[show((i:Int)+(j:Int))=((i+j:Nat):Int)from by omega,IntWalk.u64_in _ ⟨by omega,by omega⟩,show min 1 64=1 from rfl,fdiv_pow,IntWalk.i64_in _ ⟨by omega,by omega⟩,hm]
  have S0:i<=m:=by omega
  have hmj:m<j:=by omega
  obtain⟨y,hy⟩:∃y,P[m]? =some y:=⟨P[m]'(by omega),by simp⟩;have e1:(encI P)[m]? =some (.int .i64 y):=by rw[encI,List.getElem?_map,hy];rfl
  rw[SZ];simp(disch:=omega) only[go_sem,seval,e1];refine bL (SU Γ y x _) ?_;refine aJ.intro (fun uY=>?_) (fun uY=>?_)<;>simp(disch:=omega) only[go_sem,seval]
  .refine sJ (m+1,j) (by simp only;omega) ⟨by simp only;omega,h2,fun k z e hk=>?_,h4⟩ ?_ rfl
   .simp only at hk;rcases Nat.lt_or_ge k m with px|px
    .have:=El hP e hy px;omega
    grind
   .exact dL
  .refine sJ (i,m) (by simp only;omega) ⟨S0,by simp only;omega,h3,fun k z e hk=>?_⟩ ?_ rfl
   .simp only at hk;rcases Nat.lt_or_ge m k with px|px
    .have:=El hP hy e px;omega
    grind
   .exact dL
 .have S1:i=j:=by omega
  subst S1;refine fE [0,1,6,7] ?_;refine aJ.intro (fun hi=>?_) (fun hi=>?_)<;>simp(disch:=omega) only[go_sem,seval]
  .obtain⟨y,hy⟩:∃y,P[i]? =some y:=⟨P[i]'(by omega),by simp⟩;have e1:(encI P)[i]? =some (.int .i64 y):=by rw[encI,List.getElem?_map,hy];rfl
   simp(disch:=omega) only[go_sem,seval,e1];refine aJ.intro (fun uY=>?_) (fun uY=>?_)<;>simp(disch:=omega) only[go_sem,seval]
   .grind
   .simp(disch:=omega) only[go_sem,seval,e1];refine bL (SV Γ y _) ?_;have Em:x∉P:=fun hx=>by
     obtain⟨k,hk,rfl⟩:=List.mem_iff_getElem.1 hx;have ng:P[k]? =some P[k]:=by simp[hk]
     rcases Nat.lt_trichotomy k i with c|c|c
     .have:=h3 k _ ng c;omega
     .grind
     .have:=h4 i _ hy (Nat.le_refl _);have:=El hP hy ng c;omega
    grind
  .have Em:x∉P:=fun hx=>by
    obtain⟨k,hk,rfl⟩:=List.mem_iff_getElem.1 hx;have ng:P[k]? =some P[k]:=by simp[hk]
    have:=h3 k _ ng (by omega);omega
   grind
theorem Lz(g b):(iv g b).1.length<=256:=by rw[iv];grind
theorem HD{g b s}(h:s∈(iv g b).1):s.length<=12:=by
 rw[iv]at h;split at h
 .rename_i he;obtain⟨oe,_,hn⟩:=Kf he;split at h
  .simp at h
  .have:=((zu (wx oe) s).1 h).1.length_le;omega
 .simp at h
def nZ(s m:List Int):Bool:=decide (∀x∈s,x∈m)
theorem LA(s m):nZ s m=true<->∀x∈s,x∈m:=by simp[nZ]
def qe:List (List Int)->List Int->Option Nat
 |[],_=>none
 |s::r,m=>if nZ s m=true then some 0 else(qe r m).map (·+1)
def n8(S:List (List Int)):List (List Int)->Option (List Nat)
 |[]=>some []
 |m::r=>match qe S m with
  |none=>none
  |some k=>(n8 S r).map (k::·)
def wH(cZ now:Gt):List Int×Bool×Int:=
 if dp cZ=0 then(if(iv now false).2=0 then(match(iv now false).1.find? (fun s=>!eZ cZ s)with
  |some s=>(s,true,0)
  |none=>([],false,0))else([],false,(iv now false).2))else([],false,dp cZ)
def tq(cZ now:Gt):List Nat×Bool×Int:=
 if(iv cZ false).2=0 then(if(iv now false).2=0 then(match n8 (iv cZ false).1 (iv now false).1 with
  |some l=>(l,true,0)
  |none=>([],false,0))else([],false,(iv now false).2))else([],false,(iv cZ false).2)
def ju(l:List (List Int)):List (List Int)->List Int->Bool
 |[],[]=>true
 |m::r,k::s=>decide (0<=k/\k<l.length)&&nZ (l.getD k.toNat []) m&&ju l r s
 |_,_=>false
def HE(cZ:Gt)(l:List (List Int)):Bool:=l.all fun who=>fV (-1) who&&eZ cZ who
def Bt(cZ now:Gt)(l:List (List Int))(ins:List Int):Bool×Int:=
 if dp cZ=0 then(if(iv now false).2=0 then(if 256<l.length then(false,2)else(HE cZ l&&ju l (iv now false).1 ins,0))else(false,(iv now false).2))else(false,dp cZ)
theorem afr{m:List Int}:∀{S:List (List Int)},qe S m=none->∀s∈S,nZ s m=false
 |[],_,s,hs=>by simp at hs
 |a::S,h,s,hs=>by
  rw[qe]at h;split at h
  .cases h
  .rename_i hn;rw[Option.map_eq_none_iff]at h;rcases List.mem_cons.1 hs with rfl|hs
   .simpa using hn
   .exact afr h s hs
theorem PN{m:List Int}:∀{S:List (List Int)} {k:Nat},qe S m=some k->∃s,S[k]? =some s/\nZ s m=true/\∀(j:Nat) (t:List Int),j<k->S[j]? =some t->nZ t m=false
 |[],k,h=>by cases h
 |a::S,k,h=>by
  rw[qe]at h;split at h
  .grind
  .rename_i hn;obtain⟨k',h1,rfl⟩:=Option.map_eq_some_iff.1 h;obtain⟨s,e1,e2,e3⟩:=PN h1;grind
theorem afs{S:List (List Int)}:∀{ae:List (List Int)} {out:List Nat} {m:List Int} {k:Nat},n8 S ae=some out->qe S m=some k->n8 S (ae++[m])=some (out++[k])
 |[],out,m,k,h,hk=>by cases h;simp[n8,hk]
 |a::ae,out,m,k,h,hk=>by
  rw[n8]at h;rw[List.cons_append,n8];cases ha:qe S a with
  |none=>rw[ha]at h;cases h
  |some j=>
   rw[ha]at h;obtain⟨o,h1,rfl⟩:=Option.map_eq_some_iff.1 h;rw[afs h1 hk];rfl
theorem aft{S:List (List Int)}:∀{ae r:List (List Int)} {m:List Int},qe S m=none->n8 S (ae++m::r)=none
 |[],r,m,h=>by simp[n8,h]
 |a::ae,r,m,h=>by
  rw[List.cons_append,n8];cases qe S a with
  |none=>rfl
  |some j=>rw[aft h];rfl
theorem afu{S:List (List Int)}:∀{l:List (List Int)} {out:List Nat},n8 S l=some out->out.length=l.length
 |[],out,h=>by cases h;rfl
 |m::l,out,h=>by
  rw[n8]at h;cases hm:qe S m with
  |none=>rw[hm]at h;cases h
  |some k=>
   rw[hm]at h;obtain⟨o,h1,rfl⟩:=Option.map_eq_some_iff.1 h;simp[afu h1]
theorem VA(S:List (List Int)):∀l:List (List Int),(n8 S l).isSome=l.all fun m=>qR S m
 |[]=>rfl
 |m::l=>by
  rw[n8,List.all_cons];cases hm:qe S m with
  |none=>
   have:qR S m=false:=by
    cases h:qR S m with
    |false=>rfl
    |true=>
     obtain⟨s,h1,h2⟩:=(EP _ _).1 h;have:=afr hm s h1;rw[(LA s m).2 h2]at this;cases this
   rw[this];rfl
  |some k=>
   obtain⟨s,h1,h2,_⟩:=PN hm;have:qR S m=true:=(EP _ _).2 ⟨s,List.mem_of_getElem? h1,(LA s m).1 h2⟩;rw[this,Bool.true_and,<-VA S l];cases n8 S l<;>rfl
theorem VB{S:List (List Int)}:∀{l:List (List Int)} {out:List Nat},n8 S l=some out->ju S l (out.map fun(k:Nat)=>(k:Int))=true
 |[],out,h=>by cases h;rfl
 |m::l,out,h=>by
  rw[n8]at h;cases hm:qe S m with
  |none=>rw[hm]at h;cases h
  |some k=>
   rw[hm]at h;obtain⟨o,h1,rfl⟩:=Option.map_eq_some_iff.1 h;obtain⟨s,e1,e2,_⟩:=PN hm;have hk:=(List.getElem?_eq_some_iff.1 e1).1;rw[List.map_cons,ju,VB h1,Bool.and_true,Bool.and_eq_true,decide_eq_true_eq,Int.toNat_natCast,List.getD_eq_getElem?_getD,e1];grind
theorem afv{L:List (List Int)}:∀{S:List (List Int)} {ins:List Int},ju L S ins=true->∀m∈S,∃s∈L,nZ s m=true
 |[],_,_,m,hm=>by simp at hm
 |a::S,[],h,_,_=>by simp[ju]at h
 |a::S,k::ins,h,m,hm=>by
  rw[ju,Bool.and_eq_true,Bool.and_eq_true,decide_eq_true_eq]at h;rcases List.mem_cons.1 hm with rfl|hm
  .grind
  .exact afv h.2 m hm
structure Rt(g:Gt):Prop where
 e:fi g=0
 c:dp g=0
 p:(cm g).Pairwise (·<·)
 n:(cm g).length<=8
 lv:js g<=256
 r:iv g false=(jt g,0)
theorem afw{g}(he:fi g=0)(hn:(cm g).length<=8):Rt g:=by
 obtain⟨h1,h2,h3⟩:=Kf he;have hP:=wx h1;refine⟨he,h1,hP,hn,h2,?_⟩;have hl:(qa (cm g) (Hz g false)).length<=256:=by
  rw[show Hz g false=qQ g from rfl,<-acK hP (by omega) (Um h1)];have:(oX (cm g) (qQ g) (2^(cm g).length)).length<=2^(cm g).length:=by rw[oX,List.length_map];grind
  exact Nat.le_trans this (Nat.le_trans (Nat.pow_le_pow_right (by omega) hn) (by decide))
 rw[iv,if_pos he,if_neg (by omega)];rfl
theorem Bu{g}(h:dp g=0){s}(hs:s∈jt g):fV (-1) s=true:=KO h ((zu (wx h) s).1 hs).1
theorem Fc{g}(h:dp g=0){m}(hm:fV (-1) m=true):qR (jt g) m=eZ g m:=by
 have hP:=wx h;have ht:((cm g).filter fun x=>decide (x∈m)).Sublist (cm g):=List.filter_sublist;have h1:eZ g m=eZ g ((cm g).filter fun x=>decide (x∈m)):=aco h hm (KO h ht) fun x hx=>by simp[hx]
 have h2:=acR hP (Um h) ht;rw[h1,show eZ g ((cm g).filter fun x=>decide (x∈m))=qQ g ((cm g).filter fun x=>decide (x∈m))from rfl,<-h2,Bool.eq_iff_iff,EP,EP];constructor
 .rintro⟨s,k1,k2⟩;exact⟨s,k1,fun x hx=>List.mem_filter.2 ⟨((zu hP s).1 k1).1.subset hx,by simpa using k2 x hx⟩⟩
 .rintro⟨s,k1,k2⟩;exact⟨s,k1,fun x hx=>by grind⟩
theorem afx{g}(h:dp g=0){s t}(hs:fV (-1) s=true)(ht:fV (-1) t=true)(fC:∀x∈s,x∈t)(hp:eZ g s=true):eZ g t=true:=KI h hs ht (fun x _ hx=>fC x hx) hp
theorem afy{a b}(ha:Rt a)(hb:Rt b):(wH a b).2.1=!(tq a b).2.1/\(wH a b).2.2=0/\(tq a b).2.2=0:=by
 have h1:(wH a b).2.1=((jt b).find? fun s=>!eZ a s).isSome/\(wH a b).2.2=0:=by rw[wH,if_pos ha.c,hb.r,if_pos rfl];simp only;grind
 have h2:(tq a b).2.1=(n8 (jt a) (jt b)).isSome/\(tq a b).2.2=0:=by rw[tq,ha.r,hb.r,if_pos rfl,if_pos rfl];simp only;grind
 refine⟨?_,h1.2,h2.2⟩;rw[h1.1,h2.1,VA,Bool.eq_iff_iff,List.find?_isSome,Bool.not_eq_true',List.all_eq_false];constructor
 .rintro⟨s,k1,k2⟩;refine⟨s,k1,?_⟩;rw[Fc ha.c (Bu hb.c k1)];simpa using k2
 .rintro⟨s,k1,k2⟩;refine⟨s,k1,?_⟩;rw[Fc ha.c (Bu hb.c k1)]at k2;simpa using k2
theorem afz{a b}(ha:Rt a)(hb:Rt b):(∃s,wH a b=(s,true,0)/\s∈jt b/\eZ a s=false)\/(wH a b=([],false,0)/\∀s∈jt b,eZ a s=true):=by rw[wH,if_pos ha.c,hb.r,if_pos rfl];grind
theorem afA{a b}(ha:Rt a)(hb:Rt b):(∃l,tq a b=(l,true,0)/\n8 (jt a) (jt b)=some l)\/tq a b=([],false,0):=by rw[tq,ha.r,hb.r,if_pos rfl,if_pos rfl];grind
def permits(a b:Gt):Prop:=∀s,fV (-1) s=true->eZ b s=true->eZ a s=true
theorem afB{a b}(ha:Rt a)(hb:Rt b):(tq a b).2.1=true<->permits a b:=by
 have h2:(tq a b).2.1=(n8 (jt a) (jt b)).isSome:=by
  rcases afA ha hb with⟨l,h1,h2⟩|h1
  .rw[h1,h2];rfl
  .have:=(afy ha hb).1;rw[tq,ha.r,hb.r,if_pos rfl,if_pos rfl];grind
 rw[h2,VA,List.all_eq_true];constructor
 .intro h s hs hp;rw[<-Fc hb.c hs,EP]at hp;obtain⟨m,k1,k2⟩:=hp;have:=h m k1;rw[Fc ha.c (Bu hb.c k1)]at this;exact afx ha.c (Bu hb.c k1) hs k2 this
 .intro h m hm;rw[Fc ha.c (Bu hb.c hm)];have hP:=wx hb.c;exact h m (Bu hb.c hm) ((zu hP m).1 hm).2.1
theorem VC{a b}(ha:Rt a)(hb:Rt b){l ins}(hl:l.length<=256):Bt a b l ins=(HE a l&&ju l (jt b) ins,0):=by rw[Bt,if_pos ha.c,hb.r,if_pos rfl,if_neg (by omega)]
theorem atw{a b}(ha:Rt a)(hb:Rt b){l ins}(hl:l.length<=256)(h:(Bt a b l ins).1=true):permits a b:=by rw[VC ha hb hl]at h;simp only[Bool.and_eq_true,HE,List.all_eq_true]at h;obtain⟨h1,h2⟩:=h;intro s hs hp;rw[<-Fc hb.c hs,EP]at hp;obtain⟨m,k1,k2⟩:=hp;obtain⟨t,q1,q2⟩:=afv h2 m k1;exact afx ha.c (h1 t q1).1 hs (fun x hx=>k2 x ((LA t m).1 q2 x hx)) (h1 t q1).2
theorem atx{a b}(ha:Rt a)(hb:Rt b){l}(h:n8 (jt a) (jt b)=some l)(hl:(jt a).length<=256):Bt a b (jt a) (l.map fun(k:Nat)=>(k))=(true,0):=by
 rw[VC ha hb hl,VB h,Bool.and_true];have:HE a (jt a)=true:=by rw[HE,List.all_eq_true];intro s hs;rw[Bu ha.c hs,Bool.true_and];exact((zu (wx ha.c) s).1 hs).2.1
 rw[this]
theorem LB{g}(h:Rt g):(jt g).length<=256:=by have:=h.r;rw[iv,if_pos h.e]at this;grind
def rR(e:Int):AV:= .iface 31 (.int .i64 e)
def ma(e:Int):Value:= .iface 31 (.int .i64 e)
theorem y4(e):kD (rR e)=some (ma e):=by rw[rR,kD,kD];rfl
theorem afC(Γ x h)(hx:RB h.length x):AC Γ 58 [x,.int .i64 0] h x:=by refine az.drop ?_;refine cY [.tmp 4] Tryz.func58 ?_;exact hx
theorem PQ(Γ x h)(hx:RB h.length x):AC Γ 56 [x,.int .i64 0] h x:=by refine az.drop ?_;refine cY [.tmp 4] Tryz.func56 ?_;exact hx
theorem aty(Γ b h):AC Γ 61 [.bool b,.int .i64 0] h (.bool b):=by refine az.drop ?_;exact xB [.tmp 4] Tryz.func61
theorem afD(Γ B x e h)(he:e≠0)(hB:B<=h.length):dq Tryz.prog Γ B 58 [x,.int .i64 e] h (fun _ _=>False) fun u=>u=ma e:=by refine bu (AF (rs:=[.tmp 4]) 58 Tryz.func58 rfl rfl rfl rfl (by kernel_rfl)) ?_;refine bu (aJ.neg he) ?_;have:=xI.here (B:=B) (h:=h) (X:=fun u=>u=ma e) (u:=ma e) hB rfl [];simpa [ma]using this
theorem PR(Γ B x e h)(he:e≠0)(hB:B<=h.length):dq Tryz.prog Γ B 56 [x,.int .i64 e] h (fun _ _=>False) fun u=>u=ma e:=by refine bu (AF (rs:=[.tmp 4]) 56 Tryz.func56 rfl rfl rfl rfl (by kernel_rfl)) ?_;refine bu (aJ.neg he) ?_;have:=xI.here (B:=B) (h:=h) (X:=fun u=>u=ma e) (u:=ma e) hB rfl [];simpa [ma]using this
theorem yk(Γ i h):nR Tryz.prog Γ 55 [.ptr (some (i,0))] h none fun h'=>h'=h:=by refine F9 none (fun q e=>by cases e) Tryz.func55 rfl rfl rfl rfl rfl Ty.mixed (by kernel_rfl) (by kernel_rfl) ?_;rw[xK];exact dL
theorem HF(Γ i x e h)(hi:h[i]? =some (.row [x] 31)):nR Tryz.prog Γ 55 [.ptr (some (i,0))] h (some (ma e)) fun h'=>h'=h.set i (.row [.int .i64 e] 31):=by refine F9 (some (rR e,ma e)) (fun q eq=>by cases eq;exact y4 e) Tryz.func55 rfl rfl rfl rfl rfl Ty.mixed (by kernel_rfl) (by kernel_rfl) ?_;rw[xK,rR];simp(disch:=omega) only[go_sem,seval,hi]
def wI(ks who:List Int):List Int:=who.foldl (fun ks n=>ub n ks) ks
theorem afE(x:Int):∀(who ks:List Int),x∈wI ks who<->x∈ks\/x∈who
 |[],ks=>by simp[wI]
 |n::r,ks=>by have:=afE x r (ub n ks);rw[wI]at this;rw[wI,List.foldl_cons,this,aci,List.mem_cons,or_assoc]
def LC(c:Nat):AV:= .func 132 [] [.ptr (some (c,0))]
def qf(b:Nat)(who:List Int):AH:=[EH (wI [] who),.row [.map (some b)] 197]
theorem M8(Γ who h)(hw:who.length<=9223372036854775807):
  az Tryz.prog Γ 67 [.sl (encI who) .free] h fun v h'=>h'=h++qf h.length who/\v=LC (h.length+1):=by
 refine cY [.tmp 2] Tryz.func67 ?_;refine oO (β:=List Int) who [3,7,8,9] (fun ae _=>[(3,.ptr (some (h.length+1,0))),(7,.sl (encI who) .free),(8,.int .i64 who.length),(9,.int .i64 ae.length)])
  (fun ks=>h++[EH ks,.row [.map (some h.length)] 197]) (fun ae r ks=>ks=wI [] ae) [] ?_ ?_ rfl Ty.mixed (by kernel_rfl) ?_ ?_
 .simp(disch:=omega) only[go_sem,seval,cc]
 .simp[EH,pD]
 .rintro ae x r ks rfl Bk;have vg:=tS hw;have e1:(encI (ae++x::r))[ae.length]? =some (.int .i64 x):=by simp[encI]
  have atz:=anD x ks;simp(disch:=omega) only[go_sem,seval,List.length_append,List.length_cons];refine aJ.pos (by omega) ?_;simp(disch:=omega) only[go_sem,seval,List.length_cons,e1,EH,atz];refine cd (ub x ks) ?_ ?_ ?_
  .rw[Bk,wI,wI,List.foldl_append];rfl
  .simp(disch:=omega) only[go_sem,seval,List.length_append]
  .simp
 .intro ks Bk;simp(disch:=omega) only[go_sem,seval];refine fE [3] ?_;subst Bk;exact⟨rfl,rfl⟩
theorem afF(Γ l who c M h)(hl:l.length<=9223372036854775807)(hc:h[c]? =some (.row [.map (some M)] 197))(hM:h[M]? =some (EH (wI [] who))):
  AC Γ 132 [.sl (encI l) .free,.ptr (some (c,0))] h (.bool (nZ l who)):=by
 refine az.drop ?_;refine cS [.tmp 3] Tryz.func132 ?_;rw[EH]at hM;have nk:∀x,x∈wI [] who<->x∈who:=fun x=>by rw[afE];simp
 generalize wI [] who=ks at hM nk;refine aU ?_;refine oO (β:=Unit) l [1,6,7,8] (fun ae _=>[(1,.ptr (some (c,0))),(6,.sl (encI l) .free),(7,.int .i64 l.length),(8,.int .i64 ae.length)])
  (fun _=>h) (fun ae r _=>∀x∈ae,x∈who) () ?_ rfl (by simp) Ty.mixed (by kernel_rfl) ?_ ?_
 .simp(disch:=omega) only[go_sem,seval,cc]
 .rintro ae x r _ rfl hd;have vg:=tS hl;have e1:(encI (ae++x::r))[ae.length]? =some (.int .i64 x):=by simp[encI]
  simp(disch:=omega) only[go_sem,seval,List.length_append,List.length_cons];refine aJ.pos (by omega) ?_;simp(disch:=omega) only[go_sem,seval,List.length_cons,e1,hc,hM];rcases abm x ks 0 with⟨h1,j,e,h2,h3,h4⟩|⟨h1,h2⟩
  .simp(disch:=omega) only[go_sem,seval,h2,h3,h4];refine cd () ?_ ?_ rfl
   .grind
   .simp(disch:=omega) only[go_sem,seval,List.length_append]
  .simp(disch:=omega) only[go_sem,seval,h2];have:nZ (ae++x::r) who=false:=by
    cases hp:nZ (ae++x::r) who with
    |false=>rfl
    |true=>exact absurd ((nk x).2 ((LA _ _).1 hp x (by simp))) h1
   rw[this]
 .intro _ hd;simp(disch:=omega) only[go_sem,seval];refine fE [] ?_;rw[(LA l who).2 hd]
def ug{α:Type}(p:α->Bool):List α->Option Nat
 |[]=>none
 |x::r=>if p x=true then some 0 else(ug p r).map (·+1)
def Bv(o:Option Nat):Int:=match o with
 |some k=>k
 |none=>-1
theorem VD{α:Type}(p:α->Bool):∀(a:List α) (x:α) (r:List α),(∀y∈a,p y=false)->p x=true->ug p (a++x::r)=some a.length
 |[],x,r,_,hx=>by simp[ug,hx]
 |y::a,x,r,ha,hx=>by rw[List.cons_append,ug,if_neg (by rw[ha y (by simp)];simp),VD p a x r (fun z hz=>ha z (by simp[hz])) hx];rfl
theorem VE{α:Type}(p:α->Bool):∀(a:List α),(∀y∈a,p y=false)->ug p a=none
 |[],_=>rfl
 |y::a,ha=>by rw[ug,if_neg (by rw[ha y (by simp)];simp),VE p a (fun z hz=>ha z (by simp[hz]))];rfl
theorem atA(S m):ug (fun s=>nZ s m) S=qe S m:=by
 induction S with
 |nil=>rfl
 |cons s S ih=>rw[ug,qe,ih]
theorem VF{α:Type}(p:α->Bool):∀(l:List α),(match ug p l with
  |some k=>l[k]? =l.find? p/\(l.find? p).isSome=true
  |none=>l.find? p=none)
 |[]=>rfl
 |x::r=>by have ih:=VF p r;rw[ug,List.find?_cons];grind
theorem afG(Γ l p fn fs cs h)(hl:l.length<=1000000)
  (H:∀x∈l,AC Γ fn (fs++ .sl (encI x) .free::cs) h (.bool (p x))):
  AC Γ 62 [.sl (bD l) .free,.func fn fs cs] h (.int .i64 (Bv (ug p l))):=by
 refine az.drop ?_;refine cY [.tmp 4] Tryz.func62 ?_;refine oO (β:=Unit) l [1,7,8,9] (fun ae _=>[(1,.func fn fs cs),(7,.sl (bD l) .free),(8,.int .i64 l.length),(9,.int .i64 ae.length)])
  (fun _=>h) (fun ae _ _=>∀y∈ae,p y=false) () ?_ rfl (by simp) Ty.mixed (by kernel_rfl) ?_ ?_
 .simp(disch:=omega) only[go_sem,seval,jG]
 .rintro ae x r _ hd hs;have hlen:l.length=ae.length+1+r.length:=by rw[hd];simp;omega
  have e1:(bD l)[ae.length]? =some (.sl (encI x) .free):=by rw[hd];exact xW ae r x
  simp(disch:=omega) only[go_sem,seval];refine aJ.pos (by omega) ?_;simp(disch:=omega) only[go_sem,seval,e1,List.append_assoc,List.cons_append,List.nil_append];refine bL (H x (by rw[hd];simp)) ?_;refine lH.intro (fun hb=>?_) (fun hb=>?_)<;>simp(disch:=omega) only[go_sem,seval]
  .rw[hd,VD p ae x r hs hb];rfl
  .refine cd () ?_ ?_ rfl
   .grind
   .simp(disch:=omega) only[go_sem,seval,List.length_append]
 .intro _ hs;simp(disch:=omega) only[go_sem,seval];refine fE [] ?_;rw[VE p l hs];rfl
theorem atB(Γ l p fn fs cs h)(hl:l.length<=9223372036854775807)
  (H:∀x∈l,AC Γ fn (fs++ .int .i64 x::cs) h (.bool (p x))):
  AC Γ 65 [.sl (encI l) .free,.func fn fs cs] h (.int .i64 (Bv (ug p l))):=by
 refine az.drop ?_;refine cY [.tmp 4] Tryz.func65 ?_;refine oO (β:=Unit) l [1,7,8,9] (fun ae _=>[(1,.func fn fs cs),(7,.sl (encI l) .free),(8,.int .i64 l.length),(9,.int .i64 ae.length)])
  (fun _=>h) (fun ae _ _=>∀y∈ae,p y=false) () ?_ rfl (by simp) Ty.mixed (by kernel_rfl) ?_ ?_
 .simp(disch:=omega) only[go_sem,seval,cc]
 .rintro ae x r _ hd hs;have hlen:l.length=ae.length+1+r.length:=by rw[hd];simp;omega
  have e1:(encI l)[ae.length]? =some (.int .i64 x):=by rw[hd];simp[encI]
  simp(disch:=omega) only[go_sem,seval];refine aJ.pos (by omega) ?_;simp(disch:=omega) only[go_sem,seval,e1,List.append_assoc,List.cons_append,List.nil_append];refine bL (H x (by rw[hd];simp)) ?_;refine lH.intro (fun hb=>?_) (fun hb=>?_)<;>simp(disch:=omega) only[go_sem,seval]
  .rw[hd,VD p ae x r hs hb];rfl
  .refine cd () ?_ ?_ rfl
   .grind
   .simp(disch:=omega) only[go_sem,seval,List.length_append]
 .intro _ hs;simp(disch:=omega) only[go_sem,seval];refine fE [] ?_;rw[VE p l hs];rfl
def ui(l:List Nat):List AV:=encI (l.map fun(k:Nat)=>(k:Int))
theorem PS(l):(ui l).length=l.length:=by simp[ui,cc]
def PU(r:List Int×Bool×Int):AV:= .tuple [.sl (encI r.1) .free,.bool r.2.1,.int .i64 r.2.2]
def PV(r:List Nat×Bool×Int):AV:= .tuple [.sl (ui r.1) .free,.bool r.2.1,.int .i64 r.2.2]
theorem atC{g s}(h:s∈(iv g false).1):fV (-1) s=true:=by
 rw[iv]at h;split at h
 .rename_i he;split at h
  .simp at h
  .exact Bu (Kf he).1 h
 .simp at h
theorem lR{P Γ g l h p R R'}(H:nR P Γ g l h p R)(hR:∀h,R h->R' h):nR P Γ g l h p R':=
 ⟨H.1,fun G w vs hI hv=>CallsDIn.mono (H.2 G w vs hI hv) fun e u' w' hr=>by grind⟩
theorem Cs{h l k}(e:k=h.length+l.length):jO k (h++l)=h++l:=by have:=Y8 (h++l);rwa [List.length_append,<-e]at this
theorem atD(Γ cZ s c h)(ho:Sh cZ)(hc:dp cZ=0)(hs:fV (-1) s=true)(hl:s.length<=1000)(hh:h[c]? =some (.row (bM cZ).cells 49)):
  AC Γ 60 [.sl (encI s) .free,.ptr (some (c,0))] h (.bool (!eZ cZ s)):=by
 have c1:=fun h=>Tw Γ cZ s h ho (by omega);rw[(KH hc hs).1,CH]at c1;cases cZ with|mk p n gl=>
 simp only[iu,AV.cells]at c1 hh|-;refine az.drop ?_;refine cS [.tmp 3] Tryz.func60 ?_;simp(disch:=omega) only[go_sem,seval,hh];refine bL (c1 _) ?_;exact qx (aty Γ _ _)
theorem atE(Γ cZ now h)(ho:Sh cZ)(hn:Sh now):
  AC Γ 21 [bM cZ,bM now] h (PU (wH cZ now)):=by
 have c1:=fun h=>GC Γ cZ h ho;have c2:=fun h=>HB Γ now h hn;have c3:=fun hc s (hs:s∈(iv now false).1) c h hh=>atD Γ cZ s c h ho hc (atC hs) (by have:=HD hs;omega) hh;have hl:=Lz now false;rw[wH,PU];simp only[encS]at c2;generalize hce:dp cZ=ce at*;generalize iv now false=S at*;obtain⟨S,e⟩:=S;simp only at c2 c3 hl|-;generalize eZ cZ=pf at*;cases cZ with|mk p n gl=>
 cases now with|mk p2 n2 LD=>
 simp only[iu,AV.cells]at c1 c2 c3|-;refine az.ji ?_;refine bu (D8 (rs:=[.tmp 4,.tmp 5,.cell 6 31]) (h.length+3) 21 Tryz.func21 rfl rfl rfl rfl (by kernel_rfl) (by kernel_rfl) (by kernel_rfl)) ?_;refine bu (dq.cv (c1 _)) ?_;by_cases hc:ce=0;rotate_left
 .refine bu (dq.jN (afD Γ _ _ _ _ hc (by simp))) ?_;rw[Cs (by simp)];refine D9 (rR ce) (y4 ce) (lR (HF Γ _ _ _ _ (by simp;rfl)) ?_);rintro _ rfl;refine aU ?_;rw[if_neg hc];rfl
 subst hc;refine bu (dq.cv (afC Γ _ _ (.int ..))) ?_;refine bu (dq.cv (c2 _)) ?_;by_cases hc:e=0;rotate_left
 .refine bu (dq.jN (PR Γ _ _ _ _ hc (by simp))) ?_;rw[Cs (by simp)];refine D9 (rR e) (y4 e) (lR (HF Γ _ _ _ _ (by simp;rfl)) ?_);rintro _ rfl;refine aU ?_;simp only[if_neg hc];rfl
 subst hc;refine bu (dq.cv (PQ Γ _ _ (wm .. ▸trivial))) ?_;refine bu (dq.cv (afG Γ S (fun s=>!pf s) _ [] _ _ (by omega) (fun x hx=>c3 rfl x hx _ _ (by simp)))) ?_;have wu:=VF (fun s=>!pf s) S;cases hf:ug (fun s=>!pf s) S with
 |none=>
  rw[hf]at wu;simp only at wu;rw[Bv];refine aU ?_;refine lR (yk Γ _ _) ?_;rintro _ rfl;refine aU ?_;rw[wu];rfl
 |some k=>
  rw[hf]at wu;simp only at wu;obtain⟨h1,h2⟩:=wu;rw[Bv];cases hs:S.find? (fun s=>!pf s)with
  |none=>rw[hs]at h2;cases h2
  |some s=>
   rw[hs]at h1;have hk:=(List.getElem?_eq_some_iff.1 h1).1;have e1:(bD S)[k]? =some (.sl (encI s) .free):=by simp[bD,h1]
   simp(disch:=omega) only[go_sem,seval,e1];refine lR (yk Γ _ _) ?_;rintro _ rfl;exact dL
def VG(now cZ:List (List Int)):AV:= .func 119 [] [.bS [.sl (bD now) .free],.bS [.sl (bD cZ) .free]]
theorem atF(Γ now cZ h):
  AC Γ 57 [.sl (bD now) .free,.sl (bD cZ) .free] h (VG now cZ):=by
 rw[VG];refine az.ji ?_;refine az.freeze ?_;refine az.freeze ?_;refine cY [.tmp 4] Tryz.func57 ?_;have e1:∀a b:cO,(h++[a,b])[h.length]? =some a:=fun a b=>by simp
 have e2:∀a b:cO,((h++[a,b]).set h.length .frozen)[h.length+1]? =some b:=fun a b=>by grind
 have e4:∀a b:cO,∃l,((h++[a,b]).set h.length .frozen).set (h.length+1) .frozen=h++l:=fun a b=>⟨[.frozen,.frozen],by simp_all⟩;refine⟨h.length,_,_,_,e1 _ _,jM.set (e1 _ _),h.length+1,_,_,_,e2 _ _,jM.set (e2 _ _),e4 _ _,?_,?_⟩
 .simp only[dd,fB,if_true,List.drop_zero];rw[if_neg (by omega)];simp only[dd,if_true,List.drop_zero,loose];exact .func (bB.nil _) (bB.cons (.bS (bB.cons (of_eq_true (wm _ _)) (bB.nil _))) (bB.cons (.bS (bB.cons (of_eq_true (wm _ _)) (bB.nil _))) (bB.nil _)))
 .simp only[dd,fB,if_true,List.drop_zero];rw[if_neg (by omega)];simp only[dd,if_true,List.drop_zero,loose]
structure afH(Γ:GG)(L b:Nat)(now cZ:List (List Int))(Inv:List (List Int)->AH->Prop)(fh:AH->Prop):Prop where
 inv:∀ae h h',Inv ae h->RR h h'->Inv ae h'
 yl:∀ae x r h,now=ae++x::r->b<=h.length->Inv ae h->rD Tryz.prog Γ L [.int .i64 ae.length,.int .i64 (Bv (qe cZ x))] h fun v h'=>Kept b h h'/\((v= .bool true/\Inv (ae++[x]) h')\/(v= .bool false/\fh h'))
theorem fk.qf(b:Nat)(who:List Int):fk (qf b who):=fun ob ho st pe li e=>by simp only[Proofs.YtmfjlankeocaoaaGreatDoor.Fr.qf,List.mem_cons,List.not_mem_nil,or_false]at ho;rcases ho with rfl|rfl<;>cases e
def VH(kp:List Nat)(st:Tm)(I:AH->Prop)(Q:Exit->Tm->AH->Prop):Exit->Tm->AH->Prop
 | .normal,σ,h=>I h/\keep kp σ=st
 |e,σ,h=>Q e σ h
section
variable {kp:List Nat} {st:Tm} {I:AH->Prop} {Q:Exit->Tm->AH->Prop} {σ:Tm} {h:AH}
@[go_sem] theorem aCT:VH kp st I Q .normal σ h=(I h/\keep kp σ=st):=(rfl)
@[go_sem] theorem aCU:VH kp st I Q .ret σ h=Q .ret σ h:=(rfl)
end
theorem afI{P Γ N σ h Q}{α:Type}{c}(xs L)(st:List α->Tm)(inv:List α->List α->AH->Prop)(h1:keep L σ=st [])(h3:inv [] xs h)
  (H1:∀ae x r h,xs=ae++x::r->inv ae (x::r) h->bw P Γ N c (VH L (st (ae++[x])) (inv (ae++[x]) r) Q) (st ae) h)
  (H0:∀h,inv xs [] h->bw P Γ N c (DQ Q) (st xs) h):bw P Γ N (.loop c) Q σ h:=by
 refine Iw (fun n σ h=>∃ae rest,n=rest.length/\xs=ae++rest/\inv ae rest h/\keep L σ=st ae) ⟨[],xs,rfl,rfl,h3,h1⟩ fun n σ h hx=>?_;obtain⟨ae,rest,rfl,iX,hi,hs⟩:=hx;refine bw.keep L ?_;rw[hs];cases rest with
 |nil=>
  rw[List.append_nil]at iX;subst iX;refine(H0 h hi).mono fun e σ h he=>?_;cases e with
  |normal=>exact he.elim
  |_=>exact he
 |cons x r=>
  refine(H1 ae x r h iX hi).mono fun e σ h he=>?_;cases e with
  |normal=>exact⟨r.length,by simp,ae++[x],r,rfl,by simp[iX],he.1,he.2⟩
  |_=>exact he
def PW(kp:List Nat)(G:Tm->AH->Prop):Exit->Tm->AH->Prop
 | .normal,σ,h=>G (keep kp σ) h
 |_,_,_=>False
section
variable {kp:List Nat} {G:Tm->AH->Prop} {σ:Tm} {h:AH}
@[go_sem] theorem aCV:PW kp G .normal σ h=G (keep kp σ) h:=(rfl)
end
theorem VI{P Γ N σ h Q c d}(kp G)(H:bw P Γ N c (PW kp G) σ h)(T:∀σ h,G σ h->bw P Γ N d Q σ h):bw P Γ N (.seq c d) Q σ h:=
 fR (H.mono fun e σ h he=>by
  cases e with
  |normal=>exact bw.keep kp (T _ _ he)
  |_=>exact he.elim)
theorem atG(Γ now cZ L b Inv fh)(C:afH Γ L b now cZ Inv fh)(hn:now.length<=1000000)(ho:cZ.length<=1000000)(bn:∀s∈now,s.length<=1000000)(bo:∀s∈cZ,s.length<=1000000)(h)(hb:b<=h.length)(hI:Inv [] h):
  az Tryz.prog Γ 119 [.yield L,.bS [.sl (bD now) .free],.bS [.sl (bD cZ) .free]] h fun _ h'=>Kept b h h'/\(Inv now h'\/fh h'):=by
 refine cY [] Tryz.func119 ?_;refine afI now [0,1,2,6,7,8] (fun ae=>[(0,.yield L),(1,.bS [.sl (bD now) .free]),(2,.bS [.sl (bD cZ) .free]),(6,.sl (bD now) .free),(7,.int .i64 now.length),(8,.int .i64 ae.length)])
  (fun ae _ hx=>Kept b h hx/\Inv ae hx) ?_ ⟨.refl _ _,hI⟩ ?_ ?_
 .simp(disch:=omega) only[go_sem,seval,jG]
 .rintro ae x r hx hd ⟨k1,k2⟩;have hlen:now.length=ae.length+1+r.length:=by rw[hd];simp;omega
  have e1:(bD now)[ae.length]? =some (.sl (encI x) .free):=by rw[hd];exact xW ae r x
  have iD:=bn x (by rw[hd];simp);have kl:=k1.len;refine cI ?_;refine cI ?_;refine bu (aJ.pos (by omega)) ?_;refine fR (jZ (eQ ?_));simp(disch:=omega) only[go_sem,seval,e1];refine VI [0,1,2,6,7,8,20] (fun σ hy=>∃v,σ=[(0,.yield L),(1,.bS [.sl (bD now) .free]),(2,.bS [.sl (bD cZ) .free]),(6,.sl (bD now) .free),(7,.int .i64 now.length),(8,.int .i64 ae.length),(20,.bool (!v))]/\Kept b h hy/\((v=true/\Inv (ae++[x]) hy)\/(v=false/\fh hy))) (Y4 [[0,1,2,3,4,5,6,7],[0,1,3,2,4,5,6,7],[0,1,3,4,2,5,6,7],[0,2,1,3,4,5,6,7],[0,2,3,1,4,5,6,7],[0,2,3,4,1,5,6,7],[0,2,3,4,5,1,6,7],[0,3,1,2,4,5,6,7],[0,3,1,4,2,5,6,7],[0,3,2,1,4,5,6,7],[0,3,2,4,1,5,6,7],[0,3,2,4,5,1,6,7],[0,3,4,1,2,5,6,7],[0,3,4,2,1,5,6,7],[0,3,4,2,5,1,6,7],[1,0,2,3,4,5,6,7],[1,0,3,2,4,5,6,7],[1,0,3,4,2,5,6,7],[1,2,0,3,4,5,6,7],[1,2,3,0,4,5,6,7],[1,2,3,4,0,5,6,7],[1,2,3,4,5,0,6,7],[1,3,0,2,4,5,6,7],[1,3,0,4,2,5,6,7],[1,3,2,0,4,5,6,7],[1,3,2,4,0,5,6,7],[1,3,2,4,5,0,6,7],[1,3,4,0,2,5,6,7],[1,3,4,2,0,5,6,7],[1,3,4,2,5,0,6,7],[2,0,1,3,4,5,6,7],[2,0,3,1,4,5,6,7],[2,0,3,4,1,5,6,7],[2,0,3,4,5,1,6,7],[2,1,0,3,4,5,6,7],[2,1,3,0,4,5,6,7],[2,1,3,4,0,5,6,7],[2,1,3,4,5,0,6,7],[2,3,0,1,4,5,6,7],[2,3,0,4,1,5,6,7],[2,3,0,4,5,1,6,7],[2,3,1,0,4,5,6,7],[2,3,1,4,0,5,6,7],[2,3,1,4,5,0,6,7],[2,3,4,0,1,5,6,7],[2,3,4,0,5,1,6,7],[2,3,4,1,0,5,6,7],[2,3,4,1,5,0,6,7],[2,3,4,5,0,1,6,7],[2,3,4,5,1,0,6,7],[3,0,1,2,4,5,6,7],[3,0,1,4,2,5,6,7],[3,0,2,1,4,5,6,7],[3,0,2,4,1,5,6,7],[3,0,2,4,5,1,6,7],[3,0,4,1,2,5,6,7],[3,0,4,2,1,5,6,7],[3,0,4,2,5,1,6,7],[3,1,0,2,4,5,6,7],[3,1,0,4,2,5,6,7],[3,1,2,0,4,5,6,7],[3,1,2,4,0,5,6,7],[3,1,2,4,5,0,6,7],[3,1,4,0,2,5,6,7],[3,1,4,2,0,5,6,7],[3,1,4,2,5,0,6,7],[3,2,0,1,4,5,6,7],[3,2,0,4,1,5,6,7],[3,2,0,4,5,1,6,7],[3,2,1,0,4,5,6,7],[3,2,1,4,0,5,6,7],[3,2,1,4,5,0,6,7],[3,2,4,0,1,5,6,7],[3,2,4,0,5,1,6,7],[3,2,4,1,0,5,6,7],[3,2,4,1,5,0,6,7],[3,2,4,5,0,1,6,7],[3,2,4,5,1,0,6,7],[3,4,0,1,2,5,6,7],[3,4,0,2,1,5,6,7],[3,4,0,2,5,1,6,7],[3,4,1,0,2,5,6,7],[3,4,1,2,0,5,6,7],[3,4,1,2,5,0,6,7],[3,4,2,0,1,5,6,7],[3,4,2,0,5,1,6,7],[3,4,2,1,0,5,6,7],[3,4,2,1,5,0,6,7],[3,4,2,5,0,1,6,7],[3,4,2,5,1,0,6,7]] (by kernel_rfl) Ty.mixed (by kernel_rfl) ?_) ?_
  .have C1:=M8 Γ x hx (by omega);have C2:=afG Γ cZ (fun s=>nZ s x) 132 [] [.ptr (some (hx.length+1,0))] (hx++qf hx.length x) (by omega) fun s hs=>afF Γ s x (hx.length+1) hx.length (hx++qf hx.length x) (by have:=bo s hs;omega) (by simp[qf]) (by simp[qf]);rw[atA]at C2;have hK:Kept b h (hx++qf hx.length x):=k1.trans (.app b hx (fk.qf _ _));have C3:=C.yl ae x r (hx++qf hx.length x) hd (by simp;omega) (C.inv _ _ _ k2 ⟨_,fk.qf _ _,rfl⟩);repeat' refine List.forall_mem_cons.2 ⟨?_,?_⟩
   all_goals first
    |exact fun _ h=>absurd h List.not_mem_nil
    |(simp only[List.filterMap_cons,List.filterMap_nil,List.getElem?_toArray,List.getElem?_cons_zero,List.getElem?_cons_succ]
      simp(disch:=omega) only[go_sem,seval];refine az.eT C1 ?_;simp(disch:=omega) only[go_sem,seval,LC];refine az.cv C2 ?_;simp(disch:=omega) only[go_sem,seval];refine C3.mono ?_;rintro v hy ⟨q1,q2⟩;rcases q2 with⟨rfl,q2⟩|⟨rfl,q2⟩
      .simp(disch:=omega) only[go_sem,seval];exact⟨true,rfl,hK.trans q1,.inl ⟨rfl,q2⟩⟩
      .simp(disch:=omega) only[go_sem,seval];exact⟨false,rfl,hK.trans q1,.inr ⟨rfl,q2⟩⟩)
  .rintro _ hy ⟨v,rfl,q1,q2⟩;refine gR ?_;rcases q2 with⟨rfl,q2⟩|⟨rfl,q2⟩
   .refine aU ?_;refine gO ?_;simp(disch:=omega) only[go_sem,seval,List.length_append];exact⟨q1,q2⟩
   .refine aU ?_;exact⟨q1,.inr q2⟩
 .rintro hx ⟨k1,k2⟩;refine cI ?_;refine cI ?_;exact⟨k1,.inl k2⟩
theorem atS(l k):ui (l++[k])=ui l++[.int .i64 (k)]:=by simp[ui,encI]
def P0(r:Bool×Int):AV:= .tuple [.bool r.1,.int .i64 r.2]
theorem VK{L:List (List Int)}:∀{S:List (List Int)} {ins:List Int},ju L S ins=true->ins.length=S.length
 |[],[],_=>rfl
 |[],_::_,h=>by simp[ju]at h
 |_::_,[],h=>by simp[ju]at h
 |_::S,_::ins,h=>by rw[ju,Bool.and_eq_true]at h;simp[VK h.2]
def VL(L:List (List Int))(m:List Int)(k:Int):Bool:=decide (0<=k/\k<L.length)&&nZ (L.getD k.toNat []) m
theorem afV(L:List (List Int)):∀(A:List (List Int)) (B:List (List Int)) (i j:List Int),A.length=i.length->ju L (A++B) (i++j)=(ju L A i&&ju L B j)
 |[],B,[],j,_=>by simp[ju]
 |[],_,_::_,_,h=>by simp at h
 |_::_,_,[],_,h=>by simp at h
 |a::A,B,k::i,j,h=>by rw[List.cons_append,List.cons_append,ju,ju,afV L A B i j (by simpa using h)];simp[Bool.and_assoc]
theorem atT{L S ins}(h:ju L S ins=true)(i:Nat)(m k)(hm:S[i]? =some m)(hk:ins[i]? =some k):VL L m k=true:=by
 induction S generalizing ins i with
 |nil=>simp at hm
 |cons a S ih=>
  cases ins with
  |nil=>simp at hk
  |cons b ins=>
   rw[ju,Bool.and_eq_true]at h;cases i with
   |zero=>simp at hm hk;subst hm;subst hk;exact h.1
   |succ i=>grind
def zK(n:Nat)(k:Int):Bool:=decide (k<0)||decide ((n:Int)<=k)
theorem U1(Γ l k c h)(hh:h[c]? =some (.row [.sl (bD l) .free] 58)):
  AC Γ 66 [.int .i64 k,.ptr (some (c,0))] h (.bool (zK l.length k)):=by
 refine az.drop ?_;refine cS [.tmp 3] Tryz.func66 ?_;simp(disch:=omega) only[go_sem,seval];refine aJ.intro (fun h1=>?_) (fun h1=>?_)<;>simp(disch:=omega) only[go_sem,seval,hh,jG]
 .simp[zK,h1]
 .simp[zK,h1]
theorem atW{g}(h:dp g=0)(s):rZ g s=(fV (-1) s&&eZ g s,if fV (-1) s=true then 0 else 1):=by cases hs:fV (-1) s<;>simp[eZ,rZ,h,hs]
theorem afX{L:List (List Int)}:∀{S:List (List Int)} {ins:List Int},ju L S ins=true->∀k∈ins,zK L.length k=false
 |[],[],_,k,hk=>by simp at hk
 |[],_::_,h,_,_=>by simp[ju]at h
 |_::_,[],h,_,_=>by simp[ju]at h
 |_::S,j::ins,h,k,hk=>by
  rw[ju,Bool.and_eq_true,Bool.and_eq_true,decide_eq_true_eq]at h;rcases List.mem_cons.1 hk with rfl|hk
  .simp only[zK,Bool.or_eq_false_iff,decide_eq_false_iff_not];omega
  .exact afX h.2 k hk
theorem AX(σ:Tm):∀(σ':Tm),(∀p∈σ',lk σ p.1=p.2)->∀i,lk σ' i=lk σ i\/lk σ' i= .top
 |[],_,i=> .inr rfl
 |(j,v)::r,h,i=>by
  rw[I2];split
  .simp_all
  .exact AX σ r (fun p hp=>h p (by simp[hp])) i
theorem afY(Γ cZ now l ins h)(ho:Sh cZ)(hn:Sh now)(hl:l.length<=1000000)(hb:∀a∈l,a.length<=1000000)(hi:ins.length<=1000000):
  AC Γ 23 [bM cZ,bM now,.sl (bD l) .free,.sl (encI ins) .free] h (P0 (Bt cZ now l ins)):=by
 have c1:=fun h=>GC Γ cZ h ho;have c2:=fun h=>HB Γ now h hn;have c3:=fun s (hs:s.length<=1000000) h=>Tw Γ cZ s h ho (by omega);have EW:=fun(hc:dp cZ=0) s=>atW hc s;have b2:∀s∈(iv now false).1,s.length<=1000000:=fun s hs=>by have:=HD hs;omega
 have Fa:=Lz now false;rw[Bt,P0];simp only[encS]at c2;simp only[CH]at c3;simp only[HE];generalize dp cZ=ce at*;generalize iv now false=S at*;obtain⟨S,e⟩:=S;simp only at c2 Fa b2|-;generalize rZ cZ=hr at*;generalize eZ cZ=pf at*;cases cZ with|mk p n gl=>
 cases now with|mk p2 n2 LD=>
 simp only[iu]at c1 c2 c3|-;refine az.ji ?_;refine bu (D8 (rs:=[.tmp 8,.cell 9 31]) (h.length+4) 23 Tryz.func23 rfl rfl rfl rfl (by kernel_rfl) (by kernel_rfl) (by kernel_rfl)) ?_;refine bu (dq.cv (c1 _)) ?_;by_cases hc:ce=0;rotate_left
 .refine bu (dq.jN (afD Γ _ _ _ _ hc (by simp))) ?_;rw[Cs (by simp)];refine D9 (rR ce) (y4 ce) (lR (HF Γ _ _ _ _ (by simp;rfl)) ?_);rintro _ rfl;refine aU ?_;rw[if_neg hc]
 subst hc;refine bu (dq.cv (afC Γ _ _ (.int ..))) ?_;refine bu (dq.cv (c2 _)) ?_;by_cases hc:e=0;rotate_left
 .refine bu (dq.jN (PR Γ _ _ _ _ hc (by simp))) ?_;rw[Cs (by simp)];refine D9 (rR e) (y4 e) (lR (HF Γ _ _ _ _ (by simp;rfl)) ?_);rintro _ rfl;refine aU ?_;simp only[if_neg hc]
 subst hc;have EW:=EW rfl;refine dq.cv (PQ Γ _ _ (wm .. ▸trivial)) ?_;simp(disch:=omega) only[go_sem,seval,jG];try simp only[if_true]
 refine aJ.intro (fun hc=>?_) (fun hc=>?_)
 .refine aU ?_;refine lR (yk Γ _ _) ?_;rintro _ rfl;refine aU ?_;rw[if_pos (by omega)]
 have atX:¬256<l.length:=by omega
 rw[if_neg atX];simp(disch:=omega) only[go_sem,seval,jG];obtain⟨K,hK⟩:∃K:AH,K=h++[.row [.int .i64 p,.int .i64 n,.sl (gl.map bM) .free] 49,.row [.int .i64 p2,.int .i64 n2,.sl (LD.map bM) .free] 49,.row [.sl (bD l) .free] 58,.row [.int .i64 0] 31]:=⟨_,rfl⟩;have s5:K.length=h.length+4:=by subst hK;simp
 have KD:∀X:AH,∃j,K++X=h++j:=fun X=>by grind
 have KD0:∃j,K=h++j:=by subst hK;exact⟨_,rfl⟩
 have Kg:∀X:AH,(K++X)[h.length]? =some (.row [.int .i64 p,.int .i64 n,.sl (gl.map bM) .free] 49):=fun X=>by subst hK;simp
 have Kl:∀X:AH,(K++X)[h.length+2]? =some (.row [.sl (bD l) .free] 58):=fun X=>by subst hK;simp
 have Kc:∀X:AH,(K++X)[h.length+3]? =some (.row [.int .i64 0] 31):=fun X=>by subst hK;simp
 have Ks:∀X:AH,(K++X).set (h.length+3) (.row [.int .i64 0] 31)=K++X:=fun X=>by simp_all
 have Kg0:=Kg [];have Kl0:=Kl [];have Bw:=Kc [];have LH:=Ks [];rw[List.append_nil]at Kg0 Kl0 Bw LH;rw[<-hK];simp only[EW]at c3;have Q0:∀b:Bool,((l.all fun who=>fV (-1) who&&pf who)&&ju l S ins)=b->AV.tuple [.bool b,.int .i64 0]= .tuple [.bool ((l.all fun who=>fV (-1) who&&pf who)&&ju l S ins),.int .i64 0]:=fun b e=>by rw[e]
 refine ee.of (oO (β:=Unit) l [3,4,6,9,10,29,30,31] (fun ae _=>[(3,.sl (encI ins) .free),(4,.ptr (some (h.length,0))),(6,.ptr (some (h.length+2,0))),(9,.ptr (some (h.length+3,0))),(10,.sl (bD S) .free),(29,.sl (bD l) .free),(30,.int .i64 l.length),(31,.int .i64 ae.length)])
  (fun _=>K) (fun ae _ _=>∀s∈ae,(fV (-1) s&&pf s)=true) () ?_ rfl (by simp) Ty.mixed (by kernel_rfl) ?_ ?_)
 .simp(disch:=omega) only[go_sem,seval]
 .rintro ae x r _ hd hs;have hlen:l.length=ae.length+1+r.length:=by rw[hd];simp;omega
  have e1:(bD l)[ae.length]? =some (.sl (encI x) .free):=by rw[hd];exact xW ae r x
  have hx:=hb x (by rw[hd];simp);have c4:=c3 x hx;simp(disch:=omega) only[go_sem,seval];refine aJ.pos (by omega) ?_;simp(disch:=omega) only[go_sem,seval,e1,Kg0];refine az.cv (c4 _) ?_;have bad:(fV (-1) x&&pf x)=false->((l.all fun who=>fV (-1) who&&pf who)&&ju l S ins)=false:=fun e=>by grind
  cases ha:fV (-1) x with
  |false=>
   simp only[Bool.false_and,Bool.false_eq_true,if_false];simp(disch:=omega) only[go_sem,seval,LH,Bw];refine lR (yk Γ _ _) ?_;rintro _ rfl;simp(disch:=omega) only[go_sem,seval,Bw];grind
  |true=>
   cases hp:pf x with
   |false=>
    simp only[Bool.and_false,if_true];simp(disch:=omega) only[go_sem,seval,LH,Bw];refine lR (yk Γ _ _) ?_;rintro _ rfl;simp(disch:=omega) only[go_sem,seval,Bw];grind
   |true=>
    simp only[Bool.and_true,if_true];refine aU ?_;refine cd () ?_ ?_ rfl
    .intro z hz;rcases List.mem_append.1 hz with hz|hz
     .exact hs z hz
     grind
    .simp(disch:=omega) only[go_sem,seval,List.length_append]
 .intro _ hs;have kK:(l.all fun who=>fV (-1) who&&pf who)=true:=List.all_eq_true.2 hs;rw[kK]at Q0|-;simp only[Bool.true_and]at Q0|-;refine aU ?_;refine ee.keep [3,6,9,10] ?_;refine pq (B:=h.length+4) _ _ _ _ (by kernel_rfl) ?_;simp(disch:=omega) only[go_sem,seval,jG,cc];refine aJ.intro (fun h1=>?_) (fun h1=>?_);rotate_left
  .simp(disch:=omega) only[go_sem,seval,LH,Bw];refine lR (yk Γ _ _) ?_;rintro _ rfl;simp(disch:=omega) only[go_sem,seval,Bw];refine⟨KD0,Q0 _ ?_⟩;cases hx:ju l S ins with
   |false=>rfl
   |true=>exact absurd (VK hx) (by omega)
  have Iy:ins.length=S.length:=by omega
  refine aU ?_;refine bu (dq.cv (atB Γ ins (zK l.length) _ [] _ _ (by omega) (fun k _=>U1 Γ l k _ _ Kl0))) ?_;have wu:=VF (zK l.length) ins;cases hf:ug (zK l.length) ins with
  |some j=>
   rw[hf]at wu;rw[Bv];refine aJ.pos (by omega) ?_;simp(disch:=omega) only[go_sem,seval,LH,Bw];refine lR (yk Γ _ _) ?_;rintro _ rfl;simp(disch:=omega) only[go_sem,seval,Bw];refine⟨KD0,Q0 _ ?_⟩;cases hx:ju l S ins with
   |false=>rfl
   |true=>
    obtain⟨k,q1,q2⟩:=List.find?_isSome.1 wu.2;rw[afX hx k q1]at q2;cases q2
  |none=>
   rw[hf]at wu;have atY:∀k∈ins,zK l.length k=false:=fun k hk=>by grind
   rw[Bv];simp(disch:=omega) only[go_sem,seval,cc];refine ee.of (afI ins [3,6,9,10,58,59,60] (fun ae=>[(3,.sl (encI ins) .free),(6,.ptr (some (h.length+2,0))),(9,.ptr (some (h.length+3,0))),(10,.sl (bD S) .free),(58,.sl (encI ins) .free),(59,.int .i64 ins.length),(60,.int .i64 ae.length)])
    (fun ae _ hx=>∃X,hx=K++X/\ju l (S.take ae.length) ae=true) ?_ ⟨[],by simp,by simp[ju]⟩ ?_ ?_)
   .simp(disch:=omega) only[go_sem,seval]
   .rintro ae k r hx hd ⟨X,rfl,oS⟩;have hlen:ins.length=ae.length+1+r.length:=by rw[hd];simp;omega
    have ek:ins[ae.length]? =some k:=by rw[hd];simp
    have e0:(encI ins)[ae.length]? =some (.int .i64 k):=by simp[encI,ek]
    have hko:=atY k (by rw[hd];simp);simp only[zK,Bool.or_eq_false_iff,decide_eq_false_iff_not]at hko;obtain⟨i,rfl⟩:∃i:Nat,k=i:=⟨k.toNat,by omega⟩;have lF:i<l.length:=by omega
    have hdS:ae.length<S.length:=by omega
    obtain⟨y,hy⟩:∃y,y=l[i]:=⟨_,rfl⟩;obtain⟨x,hx⟩:∃x,x=S[ae.length]:=⟨_,rfl⟩;have e3:(bD l)[i]? =some (.sl (encI y) .free):=by simp[bD,lF,hy]
    have e2:(bD S)[ae.length]? =some (.sl (encI x) .free):=by simp[bD,hdS,hx]
    have yo:=hb y (by rw[hy];exact List.getElem_mem lF);have iD:=b2 x (by rw[hx];exact List.getElem_mem hdS);have ein:VL l x i=nZ y x:=by rw[VL,decide_eq_true (by omega),Bool.true_and,Int.toNat_natCast,List.getD_eq_getElem?_getD,List.getElem?_eq_getElem lF,Option.getD_some,hy]
    have Vy:S.take (ae.length+1)=S.take ae.length++[x]:=by simp_all
    refine cI ?_;refine cI ?_;refine bu (aJ.pos (by omega)) ?_;refine fR (jZ (eQ ?_));simp(disch:=omega) only[go_sem,seval,e0];have bad:nZ y x=false->ju l S ins=false:=fun e=>by
     cases hx:ju l S ins with
     |false=>rfl
     |true=>exact absurd (atT hx ae.length x i (by simp[*]) ek) (by rw[ein,e];simp)
    refine fR ?_;obtain⟨H,hH⟩:∃H:List Nat->AH,H=fun done=>if 4∈done then K++X++qf (K++X).length x else K++X:=⟨_,rfl⟩
    have H0:K++X=H []:=by rw[hH];simp
    rw[H0];refine ZZ [[],[],[0,1],[2],[3],[],[],[5,6],[7],[4,8],[9]] [3,6,9,10,16,17,58,59,60] (fun q=>[.sl (bD S) .free,.int .i64 ae.length,.bS [.sl (encI x) .free],.sl (encI x) .free,LC ((K++X).length+1),.sl (bD l) .free,.int .i64 i,.bS [.sl (encI y) .free],.sl (encI y) .free,.bool (nZ y x),.bool (!nZ y x)].getD q .top) H Ty.mixed (by kernel_rfl) (by kernel_rfl) (by kernel_rfl) (by kernel_rfl) ?_ ?_
    .intro q o ho done σ hd _ dy hf hv C hC;have f10:lk σ 10= .sl (bD S) .free:=(hf 10 (by decide)).trans rfl;have f16:lk σ 16= .int .i64 ae.length:=(hf 16 (by decide)).trans rfl;have f17:lk σ 17= .int .i64 i:=(hf 17 (by decide)).trans rfl;have f6:lk σ 6= .ptr (some (h.length+2,0)):=(hf 6 (by decide)).trans rfl;have el:(H done)[h.length+2]? =some (.row [.sl (bD l) .free] 58):=by
      rw[hH];simp only;split
      .rw[List.append_assoc];exact Kl _
      .exact Kl _
     have eH:∀q,q≠4->H (q::done)=H done:=fun q hq=>by rw[hH];simp only[List.mem_cons];simp[Ne.symm hq]
     rcases q with _|_|_|_|_|_|_|_|_|_|_|q;all_goals simp only[List.getElem?_toArray,List.getElem?_cons_zero,List.getElem?_cons_succ,Option.some.injEq,List.getElem?_nil,reduceCtorEq,Nat.zero_add,Nat.reduceAdd]at ho
     all_goals subst ho
     all_goals rw[AP]
     .rw[eH _ (by decide)]at hC;simp(disch:=omega) only[go_sem,seval,f10];exact hC
     .rw[eH _ (by decide)]at hC;simp(disch:=omega) only[go_sem,seval,f16];exact hC
     .rw[eH _ (by decide)]at hC;have v0:lk σ 65= .sl (bD S) .free:=hv 0 (hd 0 (by decide)) (by decide);have v1:lk σ 66= .int .i64 ae.length:=hv 1 (hd 1 (by decide)) (by decide);simp(disch:=omega) only[go_sem,seval,v0,v1,e2];exact hC
     .rw[eH _ (by decide)]at hC;have v2:lk σ 67= .bS [.sl (encI x) .free]:=hv 2 (hd 2 (by decide)) (by decide);simp(disch:=omega) only[go_sem,seval,v2];exact hC
     .have v3:lk σ 68= .sl (encI x) .free:=hv 3 (hd 3 (by decide)) (by decide);have e4:H done=K++X:=by rw[hH];simp only;rw[if_neg dy]
      have e5:H (4::done)=K++X++qf (K++X).length x:=by rw[hH];simp
      rw[e5]at hC;rw[e4];simp(disch:=omega) only[go_sem,seval,v3];refine az.eT (M8 Γ x _ (by omega)) ?_;exact hC
     .rw[eH _ (by decide)]at hC;simp(disch:=omega) only[go_sem,seval,f6,el];exact hC
     .rw[eH _ (by decide)]at hC;simp(disch:=omega) only[go_sem,seval,f17];exact hC
     .rw[eH _ (by decide)]at hC;have v5:lk σ 70= .sl (bD l) .free:=hv 5 (hd 5 (by decide)) (by decide);have v6:lk σ 71= .int .i64 i:=hv 6 (hd 6 (by decide)) (by decide);simp(disch:=omega) only[go_sem,seval,v5,v6,e3];exact hC
     .rw[eH _ (by decide)]at hC;have v7:lk σ 72= .bS [.sl (encI y) .free]:=hv 7 (hd 7 (by decide)) (by decide);simp(disch:=omega) only[go_sem,seval,v7];exact hC
     .have v4:lk σ 69=LC ((K++X).length+1):=hv 4 (hd 4 (by decide)) (by decide);have v8:lk σ 73= .sl (encI y) .free:=hv 8 (hd 8 (by decide)) (by decide);have e4:H done=K++X++qf (K++X).length x:=by rw[hH];simp only;rw[if_pos (hd 4 (by decide))]
      rw[eH _ (by decide)]at hC;have z0:(H done)[(K++X).length]? =some (EH (wI [] x)):=by rw[e4];simp[qf]
      have z1:(H done)[(K++X).length+1]? =some (.row [.map (some (K++X).length)] 197):=by rw[e4,List.getElem?_append_right (by omega),Nat.add_sub_cancel_left];rfl
      obtain⟨M,hM⟩:∃M,M=(K++X).length:=⟨_,rfl⟩;rw[<-hM]at z0 z1 v4;rw[LC]at v4;simp(disch:=omega) only[go_sem,seval,v4,v8];refine az.cv (afF Γ y x (M+1) M _ (by omega) z1 z0) ?_;exact hC
     .rw[eH _ (by decide)]at hC;have v9:lk σ 74= .bool (nZ y x):=hv 9 (hd 9 (by decide)) (by decide);simp(disch:=omega) only[go_sem,seval,v9];exact hC
    .intro done σ hd hf hv;have v10:lk σ 75= .bool (!nZ y x):=hv 10 (by decide);have e4:H done=K++X++qf (K++X).length x:=by rw[hH];simp only;rw[if_pos (hd 4 (by decide))]
     rw[e4,List.append_assoc];obtain⟨Y,hY⟩:∃Y,Y=X++qf (K++X).length x:=⟨_,rfl⟩;rw[<-hY];refine aU ?_;refine bw.weaken (σ':=[(3,.sl (encI ins) .free),(6,.ptr (some (h.length+2,0))),(9,.ptr (some (h.length+3,0))),(10,.sl (bD S) .free),(58,.sl (encI ins) .free),(59,.int .i64 ins.length),(60,.int .i64 ae.length),(75,.bool (!nZ y x))]) ?_ (AX σ _ ?_);rotate_left
     .intro p hp;simp only[List.mem_cons,List.not_mem_nil,or_false]at hp;rcases hp with rfl|rfl|rfl|rfl|rfl|rfl|rfl|rfl
      .exact(hf 3 (by decide)).trans rfl
      .exact(hf 6 (by decide)).trans rfl
      .exact(hf 9 (by decide)).trans rfl
      .exact(hf 10 (by decide)).trans rfl
      .exact(hf 58 (by decide)).trans rfl
      .exact(hf 59 (by decide)).trans rfl
      .exact(hf 60 (by decide)).trans rfl
      .exact v10
     cases hp:nZ y x with
     |false=>
      refine gO ?_;simp(disch:=omega) only[go_sem,seval,Ks,Kc];refine lR (yk Γ _ _) ?_;rintro _ rfl;simp(disch:=omega) only[go_sem,seval,Kc];exact⟨KD _,Q0 _ (bad hp)⟩
     |true=>
      refine gR ?_;refine gO ?_;simp(disch:=omega) only[go_sem,seval,List.length_append];refine⟨Y,rfl,?_⟩;rw[Vy,afV _ _ _ _ _ (by simp;omega),oS,Bool.true_and,ju,ju,Bool.and_true];exact ein.trans hp
   .rintro hx ⟨X,rfl,oS⟩;refine cI ?_;refine cI ?_;refine ee.keep [9] ?_;refine pq (B:=h.length+4) _ _ _ _ (by kernel_rfl) ?_;simp(disch:=omega) only[go_sem,seval,Ks,Kc];refine lR (yk Γ _ _) ?_;rintro _ rfl;simp(disch:=omega) only[go_sem,seval,Kc];simp_all
def VO(j j':AH):Prop:=(∃n,j'=j++[.bN n])\/∃q m n,j[q]? =some (.bN m)/\j'=j.set q (.bN n)
theorem at0{n by_ rows xs own x K j C}(ho:fX K j rows.length own)(hx:qi x (K++j) xs)(h1:db n rows)(h2:db n xs)
  (h3:rows.length+xs.length<=9223372036854775807)(h4:(rows.length+xs.length)*by_<=140737488355328)
  (H:∀j' eY,fX K j' (rows.length+xs.length) eY->VO j j'->C (.sl (rows++xs) eY) (K++j')):pU (some (n,by_)) (.sl rows own) x (K++j) C:=by
 refine⟨xs,hx,h1,h2,h3,h4,?_⟩;cases own with
 |free=>exact ho.elim
 |full=>
  have:=H (j++[.bN (rows.length+xs.length)]) (.bN (K.length+j.length)) ⟨j.length,rfl,by simp⟩ (.inl ⟨_,rfl⟩);simpa [List.append_assoc]using this
 |bN i=>
  obtain⟨i',rfl,e⟩:=ho;have e':(K++j)[K.length+i']? =some (.bN rows.length):=by rw[nK];exact e
  show(match(K++j)[K.length+i']? with
   |some (.bN m)=>m=rows.length/\C (.sl (rows++xs) (.bN (K.length+i'))) ((K++j).set (K.length+i') (.bN (rows.length+xs.length)))
   |_=>False)
  rw[e'];refine⟨rfl,?_⟩;rw[mq];have hi:i'<j.length:=(List.getElem?_eq_some_iff.1 e).1;exact H _ _ ⟨i',rfl,by rw[List.getElem?_set_self hi]⟩ (.inr ⟨i',_,_,e,rfl⟩)
theorem VO.kept{j j'}(h:VO j j')(b H):Kept b (H++j) (H++j'):=by
 rcases h with⟨n,rfl⟩|⟨q,m,n,e,rfl⟩
 .rw[<-List.append_assoc];exact .app b _ (fun ob ho st pe li e=>by grind)
 .rw[<-mq];have e':(H++j)[H.length+q]? =some (.bN m):=by rw[nK];exact e
  refine⟨by simp,fun k c T hb hf ek=>?_,fun k st pe li hb=>?_,fun k st pe li ek=>?_⟩
  .grind
  .grind
  grind
def lW(h:AH)(G G2:cO)(a b c:AV)(lo:cO)(X:AH):AH:=h++([G,G2,.row [a] 30,.row [b] 4,.row [c] 31,lo]++X)
section
variable {h:AH} {G G2:cO} {a b c:AV} {lo:cO} {X:AH}
theorem at1:(lW h G G2 a b c lo X).length=h.length+6+X.length:=by simp[lW];omega
theorem at2:(lW h G G2 a b c lo X)[h.length+5]? =some lo:=by simp[lW]
theorem at3(x):(lW h G G2 a b c lo X).set (h.length+2) (.row [x] 30)=lW h G G2 x b c lo X:=by rw[lW,mq];rfl
theorem at4(x):(lW h G G2 a b c lo X).set (h.length+3) (.row [x] 4)=lW h G G2 a x c lo X:=by rw[lW,mq];rfl
theorem at5(x):(lW h G G2 a b c lo X).set (h.length+4) (.row [x] 31)=lW h G G2 a b x lo X:=by rw[lW,mq];rfl
theorem at6(x):(lW h G G2 a b c lo X).set (h.length+5) x=lW h G G2 a b c x X:=by rw[lW,mq];rfl
theorem at7:(lW h G G2 a b c lo X)[h.length+2]? =some (.row [a] 30):=by simp[lW]
theorem aua:(lW h G G2 a b c lo X)[h.length+3]? =some (.row [b] 4):=by simp[lW]
theorem aub:(lW h G G2 a b c lo X)[h.length+4]? =some (.row [c] 31):=by simp[lW]
theorem auc(Y):lW h G G2 a b c lo X++Y=lW h G G2 a b c lo (X++Y):=by simp[lW]
end
theorem fX.len{K K' j n own}(ho:fX K j n own)(e:K.length=K'.length):fX K' j n own:=by
 cases own with
 |full=>trivial
 |free=>exact ho
 |bN i=>obtain⟨i',h1,h2⟩:=ho;exact⟨i',by rw[h1,e],h2⟩
theorem aud(Γ cZ now h)(ho:Sh cZ)(hn:Sh now):
  AC Γ 20 [bM cZ,bM now] h (PV (tq cZ now)):=by
 have c1:=fun h=>HB Γ cZ h ho;have c2:=fun h=>HB Γ now h hn;have b1:∀s∈(iv cZ false).1,s.length<=1000000:=fun s hs=>by have:=HD hs;omega
 have b2:∀s∈(iv now false).1,s.length<=1000000:=fun s hs=>by have:=HD hs;omega
 have hl:=Lz now false;have nN:=Lz cZ false;rw[tq,PV];simp only[encS]at c1 c2;generalize iv now false=S at*;obtain⟨S,e⟩:=S;generalize iv cZ false=L at*;obtain⟨L,e'⟩:=L;simp only at c1 c2 hl nN b1 b2|-;cases cZ with|mk p n gl=>
 cases now with|mk p2 n2 LD=>
 simp only[iu]at c1 c2|-;refine az.ji ?_;refine bu (D8 (rs:=[.cell 4 30,.cell 5 4,.cell 6 31]) (h.length+5) 20 Tryz.func20 rfl rfl rfl rfl (by kernel_rfl) (by kernel_rfl) (by kernel_rfl)) ?_;refine bu (dq.cv (c1 _)) ?_;by_cases hc:e'=0;rotate_left
 .refine bu (dq.jN (PR Γ _ _ _ _ hc (by simp))) ?_;rw[Cs (by simp)];refine D9 (rR e') (y4 e') (lR (HF Γ _ _ _ _ (by simp;rfl)) ?_);rintro _ rfl;refine aU ?_;simp only[if_neg hc];rfl
 subst hc;refine bu (dq.cv (PQ Γ _ _ (wm .. ▸trivial))) ?_;refine bu (dq.cv (c2 _)) ?_;by_cases hc:e=0;rotate_left
 .refine bu (dq.jN (PR Γ _ _ _ _ hc (by simp))) ?_;rw[Cs (by simp)];refine D9 (rR e) (y4 e) (lR (HF Γ _ _ _ _ (by simp;rfl)) ?_);rintro _ rfl;refine aU ?_;simp only[if_neg hc];rfl
 subst hc;refine bu (dq.cv (PQ Γ _ _ (wm .. ▸trivial))) ?_;refine dq.cv (atF Γ S L _) ?_;simp(disch:=omega) only[go_sem,seval,VG];try simp only[if_true]
 refine bu (ee.keep [4,5,6,21]) ?_;refine ee.of (ake rfl (fun li iZ=>?_));obtain⟨L1,tN⟩:∃L1,L1=h.length+5:=⟨_,rfl⟩;obtain⟨K,hK⟩:∃K:AV->AV->AV->cO->AH->AH,K=lW h (.row [.int .i64 p,.int .i64 n,.sl (gl.map bM) .free] 49) (.row [.int .i64 p2,.int .i64 n2,.sl (LD.map bM) .free] 49):=⟨_,rfl⟩;have s5:∀a b c lo X,(K a b c lo X).length=L1+1+X.length:=fun a b c lo X=>by rw[hK,at1,tN]
 have KL:∀a b c lo X,(K a b c lo X)[L1]? =some lo:=fun a b c lo X=>by rw[hK,tN,at2]
 have Ka:∀a b c lo X,(K a b c lo X)[h.length+2]? =some (.row [a] 30):=fun a b c lo X=>by rw[hK,at7]
 have Kb:∀a b c lo X,(K a b c lo X)[h.length+3]? =some (.row [b] 4):=fun a b c lo X=>by rw[hK,aua]
 have Kc:∀a b c lo X,(K a b c lo X)[h.length+4]? =some (.row [c] 31):=fun a b c lo X=>by rw[hK,aub]
 have Sa:∀a b c lo X x,(K a b c lo X).set (h.length+2) (.row [x] 30)=K x b c lo X:=fun a b c lo X x=>by rw[hK,at3]
 have Sb:∀a b c lo X x,(K a b c lo X).set (h.length+3) (.row [x] 4)=K a x c lo X:=fun a b c lo X x=>by rw[hK,at4]
 have Sc:∀a b c lo X x,(K a b c lo X).set (h.length+4) (.row [x] 31)=K a b x lo X:=fun a b c lo X x=>by rw[hK,at5]
 have SL:∀a b c lo X x,(K a b c lo X).set L1 x=K a b c x X:=fun a b c lo X x=>by rw[hK,tN,at6]
 have KA:∀a b c lo X Y,K a b c lo X++Y=K a b c lo (X++Y):=fun a b c lo X Y=>by rw[hK,auc]
 have KN:∀a b c lo X,K a b c lo X=K a b c lo []++X:=fun a b c lo X=>by rw[KA,List.nil_append]
 have KD:∀a b c lo X,∃l,K a b c lo X=h++l:=fun a b c lo X=>by rw[hK];exact⟨_,rfl⟩
 obtain⟨B0,Bj⟩:∃B0:AH,B0=h++[.row [.int .i64 p,.int .i64 n,.sl (gl.map bM) .free] 49,.row [.int .i64 p2,.int .i64 n2,.sl (LD.map bM) .free] 49,.row [.sl [] .full] 30,.row [.bool false] 4,.row [.int .i64 0] 31]:=⟨_,rfl⟩;rw[<-Bj];have HL:B0.length=L1:=by rw[Bj,tN];simp
 have lU:B0++[.loop .ready none li]=K (.sl [] .full) (.bool false) (.int .i64 0) (.loop .ready none li) []:=by rw[Bj,hK];simp[lW]
 rw[lU];have KK:∀a b c a' b' c' s p s' p' X Y,Kept (L1+1) (K a b c (.loop s p li) X) (K a b c (.loop s p li) Y)->Kept (L1+1) (K a b c (.loop s p li) X) (K a' b' c' (.loop s' p' li) Y):=fun a b c a' b' c' s p s' p' X Y hY=>by have q:=(((hY.setRow (i:=h.length+2) (cs:=[a']) (T:=30) (by omega)).setRow (i:=h.length+3) (cs:=[b']) (T:=4) (by omega)).setRow (i:=h.length+4) (cs:=[c']) (T:=31) (by omega)).Nk (i:=L1) (s:=s') (p:=p') (li:=li) (by omega) (KL ..);rwa [Sa,Sb,Sc,SL]at q
 have C:afH Γ L1 (L1+1) S L (fun ae hx=>∃(out:List Nat) (own:aS.Own) (X:AH),n8 L ae=some out/\fX (K (.sl [] .full) (.bool false) (.int .i64 0) (.loop .ready none li) []) X out.length own/\hx=K (.sl (ui out) own) (.bool false) (.int .i64 0) (.loop .ready none li) X)
   (fun hx=>∃ae x r X,S=ae++x::r/\qe L x=none/\hx=K (.sl [] .full) (.bool false) (.int .i64 0) (.loop .done (some .ret) li) X):=by
  refine⟨?_,?_⟩
  .rintro ae h1 h2 ⟨out,own,X,k1,k2,rfl⟩ ⟨Y,hY,rfl⟩;exact⟨out,own,X++Y,k1,k2.app Y,by rw[KA]⟩
  .rintro ae x r h1 Nv fI ⟨out,own,X,k1,k2,rfl⟩;have hol:=afu k1;have rN:ae.length<=256:=by have:=congrArg List.length Nv;simp at this;omega
   refine Ni iZ (KL ..) rfl rfl Ty.mixed (by kernel_rfl) ?_;simp(disch:=omega) only[go_sem,seval,KL,SL];refine gR ?_;cases hf:qe L x with
   |none=>
    rw[Bv];simp(disch:=omega) only[go_sem,seval,Ka,Kb,Kc,Sa,Sb,Sc,KL,SL];exact⟨KK _ _ _ _ _ _ _ _ _ _ _ _ (.refl _ _),.inr ⟨ae,x,r,X,Nv,hf,rfl⟩⟩
   |some k=>
    have hkL:k<L.length:=by obtain⟨s,q1,_⟩:=PN hf;grind
    rw[Bv];refine aJ.neg (by omega) ?_;simp(disch:=omega) only[go_sem,seval,Ka];rw[KN (.sl (ui out) own) _ _ _ X];refine at0 (own:=own) ?_ rfl (lL (out.map fun(k:Nat)=>(k:Int))) (lL [(k:Int)]) (by simp[PS];omega) (by simp[PS];omega) fun j' eY iG fC=>?_
    .rw[PS];exact fX.len k2 (by rw[s5,s5])
    rw[show ui out++[.int .i64 (k:Int)]=ui (out++[k])from(atS out k).symm];rw[<-KN];simp(disch:=omega) only[go_sem,seval,Ka,Sa,KL,SL];refine⟨KK _ _ _ _ _ _ _ _ _ _ _ _ ?_,.inl ⟨out++[k],eY,j',afs k1 hf,?_,rfl⟩⟩
    .rw[KN _ _ _ _ X,KN _ _ _ _ j'];exact fC.kept _ _
    .refine fX.len (K:=K (.sl (ui out) own) (.bool false) (.int .i64 0) (.loop .busy none li) []) ?_ (by rw[s5,s5]);simpa [PS]using iG
 rw[<-HL]at C;refine(atG Γ S L B0.length (B0.length+1) _ _ C (by omega) (by omega) b2 b1 _ (by rw[s5,HL];omega) ⟨[],.full,[],rfl,trivial,rfl⟩).mono ?_;rintro v h' ⟨q1,q2⟩;rcases q2 with⟨out,own,X,q2,q3,rfl⟩|⟨ae,x,r,X,q2,q3,rfl⟩
 .refine Cm (li0:=li) (by rw[HL];exact KL ..) (by rw[lU];exact q1.cZ) (by simp) ?_;rw[Cf,HL,SL];refine aU ?_;refine ee.keep [4,5,6] ?_;refine pq (B:=h.length+5) _ _ _ _ (by kernel_rfl) ?_;simp(disch:=omega) only[go_sem,seval,Ka,Kb,Kc,Sa,Sb,Sc];refine lR (yk Γ _ _) ?_;rintro _ rfl;simp(disch:=omega) only[go_sem,seval,Ka,Kb,Kc];rw[q2];exact⟨KD ..,of_eq_true (by rw[ui,rL];exact pZ ..),by rw[ui,rL]⟩
 .refine Cm (li0:=li) (by rw[HL];exact KL ..) (by rw[lU];exact q1.cZ) (by simp) ?_;rw[HL,SL];refine Rv Ty.mixed (by kernel_rfl) ?_;simp(disch:=omega) only[go_sem,seval];refine lR (yk Γ _ _) ?_;rintro _ rfl;simp(disch:=omega) only[go_sem,seval,Ka,Kb,Kc];rw[q2,aft q3];exact⟨KD ..,rfl⟩
end Go.Proofs.YtmfjlankeocaoaaGreatDoor.Fr
namespace Go.Proofs.YtmfjlankeocaoaaGreatDoor.Sx
open Go Go.Proofs Go.aS
def zw(D:List Tx)(n:Nat):List AV:=bq D++List.replicate n (.str ⟨⟨[]⟩⟩)
theorem apP(D n)(x:Tx):(zw D (n+1)).set D.length (.str ⟨⟨x⟩⟩)=zw (D++[x]) n:=by
 have:(bq D).length=D.length:=by simp[bq]
 rw[zw,List.set_append_right _ _ (by omega),this,Nat.sub_self,List.replicate_succ,List.set_cons_zero,zw];simp[bq]
theorem apQ(Γ)(gH:Γ 1=some powC/\Γ 1000002=some [])(Uv:Γ 1000000≠none)(l h)(eD:∀t∈l,rU t.1)(kV:l.length<=1000000)(hl:(ir (l.map (·.1))).length<=140737488355328):
  AC Γ 28 [.sl (eR l) .free] h (.tuple [.str ⟨⟨ir (l.map (·.1))⟩⟩,.int .i64 0]):=by
 refine az.drop ?_;refine cS [.tmp 2,.tmp 3] Tryz.func28 ?_;simp(disch:=omega) only[go_sem,seval,sX];refine⟨by omega,by omega,by omega,?_⟩;have hz:kL l.length [.str ⟨#[]⟩]=zw [] l.length:=by rw[ahh];rfl
 rw[hz];refine d_ (β:=List Tx×AH) l [0,2,3,4,10,11,12] (fun ae _=>[(0,.sl (eR l) .free),(2,.str ⟨#[]⟩),(3,.int .i64 0),(4,.ms h.length 0 l.length l.length 1),(10,.sl (eR l) .free),(11,.int .i64 l.length),(12,.int .i64 ae.length)]) (fun b=>h++ .row (zw b.1 (l.length-b.1.length)) 9::b.2) (fun ae _ b=>b.1=ae.map fun t=>wT t.1) ([],[]) ?_ rfl rfl ?_ ?_
 .simp(disch:=omega) only[go_sem,seval,List.length_nil]
 .rintro ae ⟨t,a⟩ r ⟨D,Y⟩ hd hD;simp only at hD|-;have hlen:l.length=ae.length+1+r.length:=by rw[hd];simp;omega
  have GK:D.length=ae.length:=by rw[hD];simp
  obtain⟨n2,J4⟩:∃n2,l.length-D.length=n2+1:=⟨r.length,by omega⟩;have e1:(eR l)[ae.length]? =some (qF (t,a)):=by rw[hd];exact fZ ..
  have ht:rU t:=eD (t,a) (by rw[hd];simp);have hs:=apP D n2 (wT t);rw[J4];have qg:(zw D (n2+1)).length=l.length:=by simp[zw,bq];omega
  rw[GK]at hs;simp(disch:=omega) only[go_sem,seval];refine aJ.pos (by omega) ?_;rw[qF]at e1;simp(disch:=omega) only[go_sem,seval,e1];have hv:=fun h=>abu Γ t a h ht;rw[qF]at hv;refine bL (hv _) ?_;have e8:n2=l.length-(D++[wT t]).length:=by simp;omega
  refine aJ.intro (fun hc=>?_) (fun hc=>?_)<;>simp(disch:=omega) only[go_sem,seval]
  .cases ht with
   |nm hn=>exact absurd hc (by simp[bC])
   |sg hn=>exact absurd hc (by simp[bP])
   | @nb n h0 h1=>
    have ew:wT (fF n)=Lib.itoa n:=by simp[wT,fF]
    rw[ew]at hs e8;refine az.cv (aay Γ gH n _ h0 (by omega)) ?_;simp(disch:=omega) only[go_sem,seval,qg];refine⟨by omega,by omega,?_⟩;refine cd (D++[Lib.itoa n],Y++[.row [.int .i64 2,.str ⟨⟨[]⟩⟩,.int .i64 n,.int .i64 a] 133]) ?_ ?_ ?_
    .simp[hD,ew]
    .simp(disch:=omega) only[go_sem,seval,List.length_append]
    .simp only;rw[<-e8];simp[hs,fF]
  .have ew:wT t=t.t:=by simp[wT,hc]
   rw[ew]at hs e8;simp(disch:=omega) only[go_sem,seval,qg];refine⟨by omega,by omega,?_⟩;refine cd (D++[t.t],Y++[.row [.int .i64 t.k,.str ⟨⟨t.t⟩⟩,.int .i64 t.n,.int .i64 a] 133]) ?_ ?_ ?_
   .simp[hD,ew]
   .simp(disch:=omega) only[go_sem,seval,List.length_append]
   .simp only;rw[<-e8];simp[hs]
 .rintro⟨D,Y⟩ hD;simp only at hD|-;have GK:D.length=l.length:=by rw[hD];simp
  simp(disch:=omega) only[go_sem,seval];refine bu (bw.keep [4]) ?_;have e5:zw D (l.length-D.length)=bq D:=by rw[zw,GK,Nat.sub_self];simp
  rw[e5];have hg:(h++ .row (bq D) 9::Y)[h.length]? =some (.row (bq D) 9):=by simp
  refine bw.freeze hg (jM.set hg) ?_;simp only[List.map_cons,List.map_nil];rw[Fr.TQ h.length l.length (bq D) (by simp[bq,GK]) (fun c hc=>by obtain⟨x,-,rfl⟩:=List.mem_map.1 hc;rfl)];refine gR ?_;have key:=fun h=>ama Γ Uv D [32] h (by omega) (by rw[hD];simpa [ir,Function.comp_def]using hl);refine bL (key _) ?_;rw[hD,ir];simp[Function.comp_def]
theorem OY(l):(z0 l).map (·.1)=l:=by rw[z0,List.map_map];exact List.map_id' l
theorem apR(Γ)(gH:Γ 1=some powC/\Γ 1000002=some [])(Uv:Γ 1000000≠none)(p)(B:GJ p)(h)(eD:∀t∈mW p,rU t)(hl:(mW p).length<=800000)(dN:(ir (mW p)).length<=140737488355328):
  AC Γ 9 [iI p] h (.tuple [.str ⟨⟨ir (mW p)⟩⟩,.int .i64 0]):=by
 have hmd:=B.md;have cp:=fun i h W=>aox Γ p B i h W hl;have cr:=fun h=>abA Γ p B (z0 (mW p)) 0 h (OY _) (by rw[GN];exact hl);have ct:=fun h=>apQ Γ gH Uv (z0 (mW p)) h (fun t ht=>eD t.1 (by rw[<-OY (mW p)];exact List.mem_map_of_mem ht)) (by rw[GN];omega) (by rw[OY];exact dN);have cs:=fun h=>aoD Γ p B h (by have:=KF pA p.bf;rw[EJ]at hl;simp at hl;omega) (by have:=KF qG p.kinds;rw[EJ]at hl;simp at hl;omega) (by have:=ab0 p.rules;rw[EJ]at hl;grind);rw[OY]at ct;refine az.drop ?_;rw[jj]at*;refine cY [.tmp 2,.tmp 3] Tryz.func9 ?_;refine bu (aJ.neg (by omega)) ?_;refine bu (aJ.neg (by omega)) ?_;have W0:Wr (h.length+1) [] (h++[.row [.str ⟨⟨p.name⟩⟩,.sl (bq p.kinds) .free,.sl (bq p.bf) .free,.sl (p.rules.map bY) .free,.int .i64 p.change.k,.int .i64 p.change.n,.int .i64 p.change.no,.str ⟨⟨p.change.name⟩⟩,.sl (p.change.l.map aK) .free,.int .i64 p.mode] 28,.row [.sl [] .full] 73]):=⟨.full,by simp[z0,eR],.inl ⟨rfl,rfl⟩⟩;refine az.then (cp _ _ W0) ?_
 rintro v H ⟨⟨own,ew,-⟩,hF⟩;obtain⟨j,rfl⟩:∃j,H=h++j:=⟨H.drop h.length,by
  have e:H.take h.length=h:=by
   apply List.ext_getElem?;intro k;rw[List.getElem?_take];split
   .rename_i hk;rw[List.getElem?_eq_getElem hk];exact hF.2 k _ (by grind) (.inl (by omega))
   grind
  conv=>lhs;rw[<-List.take_append_drop h.length H,e]⟩
 have e0:(h++j)[h.length]? =some (.row [.str ⟨⟨p.name⟩⟩,.sl (bq p.kinds) .free,.sl (bq p.bf) .free,.sl (p.rules.map bY) .free,.int .i64 p.change.k,.int .i64 p.change.n,.int .i64 p.change.no,.str ⟨⟨p.change.name⟩⟩,.sl (p.change.l.map aK) .free,.int .i64 p.mode] 28):=hF.2 _ _ (by simp) (.inl (by omega));have f1:j[1]? =some (.row [.sl (eR (z0 (mW p))) own] 73):=by rw[<-ew,nK]
 have f0:j[0]? =some (.row [.str ⟨⟨p.name⟩⟩,.sl (bq p.kinds) .free,.sl (bq p.bf) .free,.sl (p.rules.map bY) .free,.int .i64 p.change.k,.int .i64 p.change.n,.int .i64 p.change.no,.str ⟨⟨p.change.name⟩⟩,.sl (p.change.l.map aK) .free,.int .i64 p.mode] 28):=by rw[<-e0,<-nK (h:=h) (l:=j)];rfl
 simp(disch:=omega) only[go_sem,seval,f1];refine az.tP (az.cv (ct _) ?_) (by simp[eI,loose,Tg]);simp(disch:=omega) only[go_sem,seval,f1];refine az.tP (az.cv (cr _) ?_) (by simp[eI,loose,Tg]);have f2:=fun x=>eP x f0;simp(disch:=omega) only[go_sem,seval,f2];exact qx (cs _)
theorem Uw(x):(eU x).l=x.l.map eU:=by cases x;rw[eU,Ex.l,Ex.l,CJ]
theorem ES(x):(eU x).k=x.k:=by cases x;rfl
theorem Ux(x):(eU x).n=x.n:=by cases x;rfl
theorem apT(x):(eU x).no=0:=by cases x;rfl
theorem GV(x):(eU x).name=x.name:=by cases x;rfl
theorem GW{f g:Ex->Bool}(hf:∀y,f (eU y)=g y):∀x:Ex,de f (eU x)=de g x
 | .mk k n no s l=>by have h0:=hf (.mk k n no s l);have:∀y∈l,de f (eU y)=de g y:=fun y hy=>GW hf y;rw[eU]at h0|-;rw[de,de,h0,CJ,DY,DY,List.all_map];grind
theorem Uy(o:List Tx):∀x:Ex,jD o x=true->dB o (eU x)=x
 | .mk k n no s l,h=>by
  have h1:=Gi h;have:∀y∈l,dB o (eU y)=y:=fun y hy=>Uy o y (Gj h hy);rw[eU,dB,Na,CJ,List.map_map];have hl:l.map (dB o∘eU)=l:=by
   conv=>rhs;rw[<-List.map_id l]
   exact List.map_congr_left this
  rw[hl];have hw:no=mv o (.mk k n no s l):=beq_iff_eq.1 h1;have e:mv o (.mk k n 0 s (l.map eU))=mv o (.mk k n no s l):=rfl;rw[e,<-hw]
theorem KQ:∀x:Ex,dT (eU x)=dT x
 | .mk k n no s l=>by
  have:∀y∈l,dT (eU y)=dT y:=fun y hy=>KQ y;rw[eU,dT,dT,CJ];congr 1;induction l with
  |nil=>rfl
  |cons y r ih=>rw[List.map_cons,iJ,iJ,this y (by simp),ih fun z hz=>this z (by simp[hz])]
theorem ac0(o:List Tx):∀(l:List Rl) (i:Int),h_ o i l=true->kB o i (l.map mD)=l
 |[],_,_=>rfl
 |r::l,i,h=>by rw[h_,Bool.and_eq_true,Bool.and_eq_true,beq_iff_eq]at h;rw[List.map_cons,kB,ac0 o l _ h.2,uO,mD];congr 1;show(⟨r.kind,i,r.g_,dB o (eU r.x)⟩:Rl)=r;rw[Uy o _ h.1.2,<-h.1.1]
theorem ac1{p}(h:dp p=0):sN (km p)=p:=by obtain⟨-,-,-,h4,h5⟩:=xN h;show({p with rules:=kB p.bf 0 (p.rules.map mD),change:=dB p.bf (eU p.change)}:iq)=p;rw[ac0 _ _ _ h4,Uy _ _ h5]
theorem apU(s:Tx):Ch s=false->pz s=true:=by
 intro h;have hw:FY=zg:=rfl;rw[Ch,hw]at h;rw[pz,decide_eq_true_eq];have:∀l:List Tx,(l.any fun w=>s==w)=false->iK l s<0:=fun l=>by
  induction l with
  |nil=>intro _;rw[iK];decide
  |cons w r ih=>
   intro h;rw[List.any_cons,Bool.or_eq_false_iff]at h;have:=ih h.2;rw[iK,Zr,h.1];grind
 exact this _ h
theorem Ba{s:Tx}(h:rM s=true):l8 s=true/\pz s=true:=by rw[rM,Bool.and_eq_true,Bool.not_eq_true']at h;exact⟨h.1,apU s h.2⟩
theorem KR:∀(l ae:List Tx),Cl ae l=true->∀s∈l,rM s=true
 |[],_,_,s,h=>by cases h
 |x::r,ae,hd,s,h=>by
  rw[Cl,Bool.and_eq_true,Bool.and_eq_true]at hd;rcases List.mem_cons.1 h with rfl|h
  .exact hd.1.1
  .exact KR r _ hd.2 s h
theorem ac2:∀(l:List Tx) (s:Tx),0<=iK l s->s∈l
 |[],s,h=>by rw[iK]at h;omega
 |x::r,s,h=>by
  rw[iK]at h;split at h
  .rename_i e;rw[eq_of_beq e];simp
  .split at h
   .omega
   .exact List.mem_cons_of_mem _ (ac2 r s (by omega))
theorem Uz:∀(ks:List Tx) (rs:List Rl),rs.length=ks.length->l9 ks rs=true->∀r∈rs,r.kind∈ks/\0<=r.g_/\r.g_<=1099511627775
 |[],[],_,_,r,h=>by cases h
 |[],_::_,e,_,_,_=>by simp at e
 |_::_,[],e,_,_,h=>by cases h
 |k::ks,x::rs,e,hr,r,h=>by
  rw[l9,Bool.and_eq_true,Bool.and_eq_true,decide_eq_true_eq]at hr;rcases List.mem_cons.1 h with rfl|h
  .grind
  .obtain⟨a,b⟩:=Uz ks rs (by simpa using e) hr.2 r h;exact⟨List.mem_cons_of_mem _ a,b⟩
def gX(x:Ex):Bool:=iY x&&(!lg x||(l8 x.name&&pz x.name))
theorem ac3(y):bX (eU y)=gX y:=by
 have h1:iY (eU y)=iY y:=by rw[iY,iY,ES,Ux,GV,Uw,List.length_map]
 have h2:lg (eU y)=lg y:=by rw[lg,lg,ES]
 rw[bX,gX,h1,h2,apT,GV];simp
theorem KS{o:List Tx}(ho:∀s∈o,rM s=true){u:Bool}:∀x:Ex,rT o u x=true->de gX x=true
 | .mk k n no s l,h=>by
  have ht:=JM h;have hs:∀y∈l,de gX y=true:=fun y hy=>KS ho y (JN h hy);rw[de,Bool.and_eq_true,DY,List.all_eq_true];refine⟨?_,hs⟩;rw[gX,NG ht,Bool.true_and];rw[okF,Bool.and_eq_true,Bool.and_eq_true,kh]at ht;cases hn:lg (.mk k n no s l)with
  |false=>rfl
  |true=>
   rw[hn]at ht;obtain⟨a,b⟩:=Ba (ho _ (ac2 _ _ (by simpa using ht.2.1)));rw[a,b];rfl
theorem apV{p}(h:dp p=0):GJ (km p):=by
 obtain⟨h1,h2,h3,h4,h5⟩:=xN h;rw[ot,Bool.and_eq_true,Bool.and_eq_true,Bool.and_eq_true]at h2;rw[ou,Bool.and_eq_true,Bool.and_eq_true,Bool.and_eq_true,decide_eq_true_eq]at h3;have ho:=KR _ _ h2.1.1.2;have hk:=KR _ _ h2.1.2;have hr:=Uz _ _ h3.1.1.1.2.1 h3.1.1.2;refine⟨(Ba h2.1.1.1).2,h3.1.1.1.2.2,fun s hs=>(Ba (ho s hs)).2,fun s hs=>(Ba (hk s hs)).2,fun r n9=>?_,?_⟩
 .obtain⟨r0,h0,rfl⟩:=List.mem_map.1 n9;rw[bR,Bool.and_eq_true,Bool.and_eq_true];exact⟨⟨(Ba (hk _ (hr r0 h0).1)).2,by show de bX (eU r0.x)=true;rw[GW ac3];exact KS ho _ (JO h h0).1⟩,rfl⟩
 .show de bX (eU p.change)=true;rw[GW ac3];exact KS ho _ (JP h).1
mutual
theorem OZ:∀x:Ex,(gd x).length+4<=8*dT x
 | .mk k n no s l=>by have hu:=ac4 l false;have hl:=ac5 l false;rw[gd,dT];grind
theorem ac4:∀(l:List Ex) (b:Bool),(me b l).length<=8*iJ l
 |[],b=>by simp[me]
 |x::r,b=>by have h1:=OZ x;have h2:=ac4 r true;rw[me,iJ];grind
theorem ac5:∀(l:List Ex) (b:Bool),(kE b l).length<=8*iJ l
 |[],b=>by simp[kE]
 |x::r,b=>by have h1:=OZ x;have h2:=ac5 r true;rw[kE,iJ];grind
end
theorem apW:∀w∈zg,l8 w=true:=by decide+kernel
def oY(l:List Tk):Prop:=∀t∈l,rU t
theorem oY.nil:oY []:=fun _ h=>by cases h
theorem oY.cons{t l}(h:rU t)(k:oY l):oY (t::l):=fun x hx=>by
 rcases List.mem_cons.1 hx with rfl|hx
 .exact h
 .exact k x hx
theorem oY.app{a b}(h:oY a)(k:oY b):oY (a++b):=fun x hx=>(List.mem_append.1 hx).elim (h x) (k x)
theorem wB{w}(h:w∈zg):rU (bC w):= .nm (apW w h)
theorem UA:∀x:Ex,de gX x=true->oY (gd x)
 | .mk k n no s l,h=>by
  have ht:=Gi h;have sub:∀y∈l,oY (gd y):=fun y hy=>UA y (Gj h hy);have hU:∀(r:List Ex),(∀y∈r,oY (gd y))->∀b,oY (me b r):=fun r=>by
   induction r with
   |nil=>intro _ b;rw[me];exact .nil
   |cons y r ih=>
    intro hy b;rw[me];refine .app (.app ?_ (.cons (.sg (by decide)) (.app (hy y (by simp)) (.cons (.sg (by decide)) .nil)))) (ih (fun z hz=>hy z (by simp[hz])) true);cases b
    .exact .nil
    .exact .cons (wB (by decide)) .nil
  have hL:∀(r:List Ex),(∀y∈r,oY (gd y))->∀b,oY (kE b r):=fun r=>by
   induction r with
   |nil=>intro _ b;rw[kE];exact .nil
   |cons y r ih=>
    intro hy b;rw[kE];refine .app (.app ?_ (hy y (by simp))) (ih (fun z hz=>hy z (by simp[hz])) true);cases b
    .exact .nil
    .exact .cons (.sg (by decide)) .nil
  rw[gX,Bool.and_eq_true,Bool.or_eq_true,Bool.not_eq_true']at ht;have h1:(if k=1 then decide (n=0/\l.length=0)else if k=2 then decide (1<=n/\n<=4096/\l.length=0)else if k=3 then decide (s.length=0/\1<=l.length/\l.length<=16/\1<=n/\n<=l.length)else if k=4 then decide (s.length=0/\l.length=2/\0<=n/\n<=1099511627776)else false)=true:=ht.1;have h3:k=1\/k=2->l8 s=true:=fun hk=>by
   rcases ht.2 with h|h
   .simp only[lg,Ex.k,Bool.or_eq_false_iff,beq_eq_false_iff_ne]at h;omega
   .rw[Bool.and_eq_true]at h;exact h.1
  rw[gd];by_cases e1:k=1
  .rw[if_pos e1];exact .cons (wB (by decide)) (.cons (.nm (h3 (.inl e1))) .nil)
  rw[if_neg e1]at h1|-;by_cases e2:k=2
  .rw[if_pos e2]at h1|-;have:=of_decide_eq_true h1;exact .cons (wB (by decide)) (.cons (.nb (by omega) (by omega)) (.cons (wB (by decide)) (.cons (.nm (h3 (.inr e2))) .nil)))
  rw[if_neg e2]at h1|-;by_cases e4:k=4
  .rw[if_pos e4,if_neg (by omega)]at h1;rw[if_pos e4];have:=of_decide_eq_true h1;exact .cons (wB (by decide)) (.cons (.nb (by omega) (by omega)) (hU l sub false))
  rw[if_neg e4];have h5:0<=n/\n<=16:=by
   by_cases e3:k=3
   .grind
   grind
  exact .cons (.nb (by omega) (by omega)) (.cons (wB (by decide)) (.cons (.sg (by decide)) (.app (hL l sub false) (.cons (.sg (by decide)) .nil))))
theorem apY:∀a<5,1<=a->l8 (kW.getD a [])=true:=by decide+kernel
theorem okD{w}(hw:w∈zg){l:List Tx}(h:∀s∈l,l8 s=true):oY (j9 w l):=by intro t ht;obtain⟨s,hs,ht⟩:=List.mem_flatMap.1 ht;have:oY [bC w,bC s,bP 59]:= .cons (wB hw) (.cons (.nm (h s hs)) (.cons (.sg (by decide)) .nil));exact this t ht
theorem apZ{p}(h:dp p=0):oY (mW (km p)):=by
 obtain⟨h1,h2,h3,h4,h5⟩:=xN h;rw[ot,Bool.and_eq_true,Bool.and_eq_true,Bool.and_eq_true]at h2;rw[ou,Bool.and_eq_true,Bool.and_eq_true,Bool.and_eq_true,decide_eq_true_eq]at h3;have ho:=KR _ _ h2.1.1.2;have hk:=KR _ _ h2.1.2;have hr:=Uz _ _ h3.1.1.1.2.1 h3.1.1.2;have gB:∀x,de gX x=true->de gX (eU x)=true:=fun x hx=>by
  rw[GW (g:=gX) (fun y=>?_)]
  .exact hx
  .have h1:iY (eU y)=iY y:=by rw[iY,iY,ES,Ux,GV,Uw,List.length_map]
   have h2:lg (eU y)=lg y:=by rw[lg,lg,ES]
   rw[gX,gX,h1,h2,GV]
 have hm:=h3.1.1.1.2.2;rw[EJ];refine .cons (wB (by decide)) (.cons (.nm (Ba h2.1.1.1).1) (.cons (.sg (by decide)) (.cons (wB (by decide)) (.cons (.nm (apY _ (by show p.mode.toNat<5;omega) (by show 1<=p.mode.toNat;omega))) (.cons (.sg (by decide)) (.app (okD (by decide) fun s hs=>(Ba (ho s hs)).1) (.app (okD (by decide) fun s hs=>(Ba (hk s hs)).1) (.app (fun t ht=>?_) (.cons (wB (by decide)) (.cons (.sg (by decide)) (.app (UA _ (gB _ (KS ho _ (JP h).1))) (.cons (.sg (by decide)) .nil))))))))))));obtain⟨r1,hr1,ht⟩:=List.mem_flatMap.1 ht;obtain⟨r,zP,rfl⟩:=List.mem_map.1 hr1;obtain⟨a,b⟩:=hr r zP;rw[Ey]at ht;have:oY (bC zi::bC r.kind::bC wi::fF r.g_::bP 61::(gd (eU r.x)++[bP 59])):= .cons (wB (by decide)) (.cons (.nm (Ba (hk _ a)).1) (.cons (wB (by decide)) (.cons (.nb b.1 (by omega)) (.cons (.sg (by decide)) (.app (UA _ (gB _ (KS ho _ (JO h zP).1))) (.cons (.sg (by decide)) .nil))))));exact this t ht
theorem ap1(l:List Rl)(h:∀r∈l,dT r.x<=256):(l.flatMap oA).length<=3000*l.length:=by
 induction l with
 |nil=>simp
 |cons r t ih=>
  have h1:=OZ r.x;have h2:=h r (by simp);have h3:=ih fun x hx=>h x (by simp[hx]);rw[List.flatMap_cons,List.length_append,Ey,List.length_cons];grind
theorem ap2{p}(h:dp p=0):(mW (km p)).length<=80000:=by
 have h1:=(xN h).1;rw[nM,Bool.and_eq_true,decide_eq_true_eq,List.all_eq_true]at h1;have sz:∀x∈exprs p,dT x<=256:=fun x hx=>by have:=h1.2 x hx;simp only[lN,Bool.not_eq_true',Bool.or_eq_false_iff,decide_eq_false_iff_not]at this;omega
 have hr:=ap1 (km p).rules (fun r hr=>by obtain⟨r0,h0,rfl⟩:=List.mem_map.1 hr;show dT (eU r0.x)<=256;rw[KQ];exact sz _ (List.mem_append_left _ (List.mem_map_of_mem h0)))
 have hc:=OZ (km p).change;have FW:dT (km p).change<=256:=by show dT (eU p.change)<=256;rw[KQ];exact sz _ (by simp[exprs])
 have ik:(km p).rules.length=p.rules.length:=by simp[km]
 rw[EJ];simp only[List.length_cons,List.length_append,KF,List.length_nil];have e1:(km p).bf=p.bf:=rfl;have e2:(km p).kinds=p.kinds:=rfl;rw[e1,e2];omega
theorem ac8{t}(h:rU t):(wT t).length<=32:=by
 cases h with
 | @nm s h=>have:=abr h;simpa [wT,bC]using this
 | @nb n h h2=>
  have:=(Ti h h2).2.1;have e:wT (fF n)=Lib.itoa n:=by simp[wT,fF]
  rw[e];omega
 |sg h=>simp[wT,bP]
theorem ac9:∀l:List Tk,oY l->(ir l).length<=33*l.length
 |[],_=>by simp[ir,Lib.join]
 |[x],h=>by have:=ac8 (h x (by simp));rw[Tl];simp;omega
 |x::y::l,h=>by have h1:=ac8 (h x (by simp));have h2:=ac9 (y::l) (fun t ht=>h t (by grind));rw[Tj,List.length_append,List.length_cons];grind
end Go.Proofs.YtmfjlankeocaoaaGreatDoor.Sx
namespace Go.Proofs.YtmfjlankeocaoaaGreatDoor
open Go Go.Proofs Go.aS
def Bb(n:Int):Fr.Gt:= .mk n 0 []
def sb:Fr.Gt:= .mk 0 0 []
def oZ(w:Hd->Int)(l:List Hd):List Fr.Gt:=l.flatMap fun y=>List.replicate (w y).toNat (Bb y.eC)
mutual
def ig(v:Int)(hs:List (List Hd)):Ex->Fr.Gt
 | .mk k n no _ l=>
  if k=1 then .mk (-1) 1 (oZ (fun _=>1) (gI hs no))
  else if k=2 then .mk (-1) n (oZ Hd.weight (gI hs no))
  else if k=3 then .mk (-1) n (KU v hs l)
  else(KU v hs l).getD (if v<=n then 0 else 1) sb
def KU(v:Int)(hs:List (List Hd)):List Ex->List Fr.Gt
 |[]=>[]
 |x::r=>ig v hs x::KU v hs r
end
theorem ap4(v hs l):KU v hs l=l.map (ig v hs):=by
 induction l with
 |nil=>rfl
 |cons x r ih=>rw[KU,ih,List.map_cons]
theorem UD(v hs x):ig v hs x=
  if x.k=1 then .mk (-1) 1 (oZ (fun _=>1) (gI hs x.no))
  else if x.k=2 then .mk (-1) x.n (oZ Hd.weight (gI hs x.no))
  else if x.k=3 then .mk (-1) x.n (x.l.map (ig v hs))
  else(x.l.map (ig v hs)).getD (if v<=x.n then 0 else 1) sb:=by
 cases x with
 |mk k n no s l=>rw[ig,ap4];rfl
def pG(g:Fr.Gt):Fr.Gt×Int:=if Fr.dp g=0 then(g,0)else(sb,2)
def kZ(p:iq)(kind value:Int)(hs:List (List Hd)):Fr.Gt×Int:=
 if(eZ p kind value hs []).2≠0 then(sb,(eZ p kind value hs []).2)
 else pG (((p.rules[kind.toNat]?).map fun r=>ig value hs r.x).getD sb)
def s8(p:iq)(hs:List (List Hd)):Fr.Gt×Int:=
 if(uV p hs []).2≠0 then(sb,(uV p hs []).2)else pG (ig 0 hs p.change)
theorem O1(w:Hd->Int)(hw:∀l:List Hd,True):∀l:List Hd,(∀y∈l,w y<=64)->(oZ w l).length<=64*l.length
 |[],_=>by simp[oZ]
 |y::r,h=>by have h1:=h y (by simp);have h2:=O1 w hw r fun z hz=>h z (by simp[hz]);rw[oZ]at h2|-;grind
theorem ap5{w l g}(h:g∈oZ w l):∃y∈l,g=Bb y.eC:=by obtain⟨y,hy,hg⟩:=List.mem_flatMap.1 h;grind
theorem ap6{n}(h:0<=n/\n<64):Fr.Sh (Bb n):= .mk (by simp) (fun x hx=>by cases hx) (by omega) (by omega) (by omega) (by omega)
theorem ac_{w l}(hp:∀y∈l,0<=y.eC/\y.eC<64):∀g∈oZ w l,Fr.Sh g:=fun g hg=>by obtain⟨y,hy,rfl⟩:=ap5 hg;exact ap6 (hp y hy)
theorem ap7:Fr.Sh sb:= .mk (by simp) (fun x hx=>by cases hx) (by omega) (by omega) (by omega) (by omega)
theorem ada{hs n}(h:j8 hs n=true)(no):(∀y∈gI hs no,1<=y.weight/\y.weight<=64)/\(∀y∈gI hs no,0<=y.eC/\y.eC<64)/\(gI hs no).length<=64:=by
 by_cases cV:gI hs no=[]
 .grind
 .obtain⟨y,hy⟩:=List.exists_mem_of_ne_nil _ cV;rw[j8,Bool.and_eq_true,List.all_eq_true]at h;have:=S5 (h.1 _ (aob hy));grind
theorem adb{v:Int}{hs:List (List Hd)}{n:Int}(h:j8 hs n=true)(o:List Tx)(u:Bool):∀(m:Nat) (x:Ex),SizeOf.sizeOf x<m->rT o u x=true->Fr.Sh (ig v hs x)
 |0,_,hk,_=>absurd hk (Nat.not_lt_zero _)
 |m+1,x,cj,eD=>by
  have ih:∀y∈x.l,Fr.Sh (ig v hs y):=fun y hy=>adb h o u m y (by cases x;exact pX hy cj) (JN eD hy);have p7:=JM eD;have hk:=NF p7;obtain⟨r1,r2,r3⟩:=ada h x.no;rw[UD];obtain e|e|e|e:x.k=1\/x.k=2\/x.k=3\/x.k=4:=by omega
  .rw[if_pos e];have:=O1 (fun _=>1) (fun _=>trivial) (gI hs x.no) (fun _ _=>by decide);exact .mk (by omega) (ac_ r2) (by omega) (by omega) (by omega) (by omega)
  .have hw:=ZU p7 e;rw[if_neg (by omega),if_pos e];have:=O1 Hd.weight (fun _=>trivial) (gI hs x.no) (fun y hy=>(r1 y hy).2);exact .mk (by omega) (ac_ r2) (by omega) (by omega) (by omega) (by omega)
  .have ho:=NH p7 e;rw[if_neg (by omega),if_neg (by omega),if_pos e];exact .mk (by rw[List.length_map];omega) (fun g hg=>by grind) (by omega) (by omega) (by omega) (by omega)
  .rw[if_neg (by omega),if_neg (by omega),if_neg (by omega),List.getD_eq_getElem?_getD,List.getElem?_map];cases hg:x.l[if v<=x.n then 0 else 1]? with
   |none=>exact ap7
   |some y=>exact ih y (List.mem_of_getElem? hg)
theorem O2{v hs n}(h:j8 hs n=true){o u x}(eD:rT o u x=true):Fr.Sh (ig v hs x):=adb h o u _ x (Nat.lt_succ_self _) eD
theorem ap8(W){n}(h:0<=n):Fr.ie W (Bb n)=W n:=by rw[Bb,Fr.ie,if_pos h]
theorem UE(who:List Int)(w:Hd->Int):∀l:List Hd,(∀y∈l,0<=y.eC)->(∀y∈l,0<=w y)->(((oZ w l).filter (Fr.ie fun p=>decide (p∈who))).length:Int)=sU who (l.map fun y=>⟨y.eC,w y⟩)
 |[],_,_=>rfl
 |y::r,hp,hw=>by
  have ih:=UE who w r (fun z hz=>hp z (by simp[hz])) (fun z hz=>hw z (by simp[hz]));have h0:=hw y (by simp);rw[oZ]at ih|-;rw[List.flatMap_cons,List.filter_append,List.length_append,List.map_cons,sU,<-ih];have hl:=ap8 (fun p=>decide (p∈who)) (hp y (by simp));have hf:(List.replicate (w y).toNat (Bb y.eC)).filter (Fr.ie fun p=>decide (p∈who))=if mz who y.eC then List.replicate (w y).toNat (Bb y.eC)else[]:=by
   cases hb:mz who y.eC
   .rw[if_neg (by decide)];exact List.filter_eq_nil_iff.2 fun g hg=>by rw[List.eq_of_mem_replicate hg,hl];rw[mz]at hb;simp[hb]
   .rw[if_pos rfl];exact List.filter_eq_self.2 fun g hg=>by rw[List.eq_of_mem_replicate hg,hl];rw[mz]at hb;exact hb
  grind
theorem ap9(l:List Hd):(l.map fun y=>(⟨y.eC,y.weight⟩:Hd))=l:=by simp_all
theorem ap_(who l):sT who l=decide (1<=sU who (TP l)):=by
 rw[<-aoc];exact ap3 fun y hy=>by obtain⟨z,_,rfl⟩:=List.mem_map.1 hy;grind
theorem ade(who:List Int)(f:Ex->Bool)(g:Ex->Fr.Gt):∀l:List Ex,(∀y∈l,Fr.ie (fun p=>decide (p∈who)) (g y)=f y)->(((l.map g).filter (Fr.ie fun p=>decide (p∈who))).length:Int)=pt (l.map f)
 |[],_=>rfl
 |y::r,h=>by have ih:=ade who f g r fun z hz=>h z (by simp[hz]);rw[List.map_cons,List.map_cons,pt,List.filter_cons,h y (by simp),<-ih];cases f y<;>simp<;>omega
theorem adf{v:Int}{hs:List (List Hd)}{who:List Int}{n:Int}(h:j8 hs n=true)(o:List Tx)(u:Bool):∀(m:Nat) (x:Ex),SizeOf.sizeOf x<m->rT o u x=true->Fr.ie (fun p=>decide (p∈who)) (ig v hs x)=mc v hs who x
 |0,_,hk,_=>absurd hk (Nat.not_lt_zero _)
 |m+1,x,cj,eD=>by
  have ih:∀y∈x.l,Fr.ie (fun p=>decide (p∈who)) (ig v hs y)=mc v hs who y:=fun y hy=>adf h o u m y (by cases x;exact pX hy cj) (JN eD hy);have p7:=JM eD;have hk:=NF p7;obtain⟨r1,r2,r3⟩:=ada h x.no;rw[UD,ZQ];obtain e|e|e|e:x.k=1\/x.k=2\/x.k=3\/x.k=4:=by omega
  .rw[if_pos e,if_pos e,Fr.UC _ (by omega) (by omega),UE who _ _ (fun y hy=>(r2 y hy).1) (fun _ _=>by decide),ap_];rfl
  .have hw:=ZU p7 e;rw[if_neg (by omega),if_pos e,if_neg (by omega),if_pos e,Fr.UC _ (by omega) (by omega),UE who _ _ (fun y hy=>(r2 y hy).1) (fun y hy=>by have:=r1 y hy;omega),ap9]
  .have ho:=NH p7 e;rw[if_neg (by omega),if_neg (by omega),if_pos e,if_neg (by omega),if_neg (by omega),if_pos e,Fr.UC _ (by omega) (by omega),ade who (mc v hs who) (ig v hs) _ ih]
  .obtain⟨hl,_⟩:=SI p7 e;grind
theorem adg{v hs who n}(h:j8 hs n=true){o u x}(eD:rT o u x=true):Fr.ie (fun p=>decide (p∈who)) (ig v hs x)=mc v hs who x:=adf h o u _ x (Nat.lt_succ_self _) eD
def wC(v:Int)(hs:List (List Hd)):List AV:=[.int .i64 v,.sl (fY hs) .free]
def sc(v:Int)(hs:List (List Hd)):AV:= .agg (wC v hs)
def qX(w:Hd->Int)(l:List Hd):List AV:=l.flatMap fun y=>List.replicate (w y).toNat (Fr.A1 y.eC)
theorem aqc(n):Fr.bM (Bb n)= .agg [.int .i64 n,.int .i64 0,.sl [] .free]:=by rw[Bb,Fr.iu];rfl
theorem aqd(w l):eI (qX w l)=(oZ w l).map Fr.bM:=by
 induction l with
 |nil=>rfl
 |cons y r ih=>
  rw[qX,oZ]at ih|-;rw[List.flatMap_cons,List.flatMap_cons,List.map_append,aod,ih];congr 1;rw[rK,List.map_replicate,List.map_replicate,aqc];congr 1
theorem aqe(w l):(qX w l).length=(oZ w l).length:=by rw[qX,oZ,List.length_flatMap,List.length_flatMap];grind
theorem adk(l)(h:∀a∈l,∃n,a=Fr.A1 n):db 3 l:=fun r hr=>by obtain⟨n,rfl⟩:=h r hr;refine⟨rfl,fun c hc=>?_⟩;simp only[Fr.A1,AV.cells,List.mem_cons,List.not_mem_nil,or_false]at hc;rcases hc with rfl|rfl|rfl<;>rfl
theorem aqf{w l a}(h:a∈qX w l):∃n,a=Fr.A1 n:=by obtain⟨y,_,hy⟩:=List.mem_flatMap.1 h;grind
theorem aqg{n ae r x}(h:List.replicate n ()=ae++x::r):ae.length+1+r.length=n:=by have:=congrArg List.length h;simp at this;omega
theorem adl(Γ l wv w h)(hl:l.length<=100)(hw:∀y∈l,0<=w y/\w y<=64)(hc:∀y∈l,∀h,AC Γ wv [fU y] h (.int .i64 (w y))):
  AC Γ 178 [.sl (l.map fU) .free,.func wv [] []] h (.sl ((oZ w l).map Fr.bM) .free):=by
 refine az.ji ?_;refine cS [.tmp 4] Tryz.func178 ?_;simp(disch:=omega) only[go_sem,seval,List.length_map];have ik:∀dn r,l=dn++r->(qX w dn).length<=64*dn.length:=fun dn r e=>by rw[aqe];exact O1 w (fun _=>trivial) dn fun y hy=>(hw y (by rw[e];simp[hy])).2
 refine d_ (β:=aS.Own×AH) l [1,4,7,8,9] (fun dn b=>[(1,.func wv [] []),(4,.sl (qX w dn) b.1),(7,.sl (l.map fU) .free),(8,.int .i64 l.length),(9,.int .i64 dn.length)]) (fun b=>h++b.2) (fun dn _ b=>fX h b.2 (qX w dn).length b.1) (.full,[]) ?_ (by simp) trivial ?_ ?_
 .simp(disch:=omega) only[go_sem,seval,List.length_nil];rfl
 .rintro dn y r ⟨own,X⟩ bT cP;simp only at cP|-;have hlen:l.length=dn.length+1+r.length:=by rw[bT];simp;omega
  have e1:(l.map fU)[dn.length]? =some (fU y):=by rw[bT];exact fZ ..
  have hb:=ik dn _ bT;have hwy:=hw y (by rw[bT];simp);have c1:=hc y (by rw[bT];simp);rw[fU]at e1 c1;simp(disch:=omega) only[go_sem,seval];refine aJ.pos (by omega) ?_;simp(disch:=omega) only[go_sem,seval,e1];refine bL (c1 _) ?_;obtain⟨n,hn⟩:∃n:Nat,w y=n:=⟨(w y).toNat,by omega⟩;have xe:qX w (dn++[y])=qX w dn++List.replicate n (Fr.A1 y.eC):=by rw[qX,qX,List.flatMap_append,List.flatMap_cons,List.flatMap_nil,List.append_nil,hn];rfl
  rw[hn];obtain⟨K,hK⟩:∃K:AH,K=h++X:=⟨_,rfl⟩;refine d_ (β:=aS.Own×AH) (List.replicate n ()) [1,4,6,7,8,9,15,16] (fun dm b=>[(1,.func wv [] []),(4,.sl (qX w dn++List.replicate dm.length (Fr.A1 y.eC)) b.1),(6,.ptr (some (h.length+X.length,0))),(7,.sl (l.map fU) .free),(8,.int .i64 l.length),(9,.int .i64 dn.length),(15,.int .i64 n),(16,.int .i64 dm.length)]) (fun b=>h++b.2) (fun dm _ b=>fX h b.2 ((qX w dn).length+dm.length) b.1/\b.2[X.length]? =some (.row [.int .i64 y.eC,.int .i64 y.weight] 69)) (own,X++[.row [.int .i64 y.eC,.int .i64 y.weight] 69]) ?_ ?_ ⟨cP.app _,by simp⟩ ?_ ?_
  .simp(disch:=omega) only[go_sem,seval,List.length_nil,List.replicate_zero,List.append_nil]
  .simp
  .rintro dm u r2 ⟨ow,Z⟩ hdm ⟨O4,hZ⟩;simp only at O4 hZ|-;have j7:=aqg hdm;have gz:(h++Z)[h.length+X.length]? =some (.row [.int .i64 y.eC,.int .i64 y.weight] 69):=by rw[nK];exact hZ
   refine aU ?_;refine aJ.pos (by omega) ?_;simp(disch:=omega) only[go_sem,seval,gz];have nn:db 3 (qX w dn++List.replicate dm.length (Fr.A1 y.eC)):=adk _ fun a ha=>by
    rcases List.mem_append.1 ha with ha|ha
    .exact aqf ha
    grind
   have O5:(qX w dn++List.replicate dm.length (Fr.A1 y.eC)).length=(qX w dn).length+dm.length:=by grind
   rw[show[AV.agg [.int .i64 y.eC,.int .i64 0,.sl [] .full]]=[Fr.A1 y.eC]from rfl];refine pV (by rw[O5];exact O4) nn (adk _ fun a ha=>⟨y.eC,by simpa using ha⟩) (by grind) (by grind) fun j' eY iG hg=>?_;refine aU ?_;refine cd (eY,j') ⟨?_,hg.2 _ _ hZ (fun n e=>by cases e)⟩ ?_ rfl
   .grind
   .simp(disch:=omega) only[go_sem,seval,List.length_append,List.replicate_succ',List.append_assoc]
  .rintro⟨ow,Z⟩ ⟨O4,hZ⟩;simp only at O4 hZ|-;simp(disch:=omega) only[go_sem,seval,List.length_replicate];refine fE [1,4,7,8,9] ?_;refine cd (ow,Z) ?_ ?_ rfl
   .grind
   .simp(disch:=omega) only[go_sem,seval,List.length_append,xe]
 .rintro⟨own,X⟩ cP;simp only at cP|-;simp(disch:=omega) only[go_sem,seval];refine fE [4] ?_;rw[aqd];exact⟨Fr.Ow _ _▸trivial,rfl⟩
theorem aqj(Γ y h):AC Γ 180 [fU y] h (.int .i64 1):=by refine az.drop ?_;rw[fU];exact xB [.tmp 2] Tryz.func180
theorem aqk(Γ y h):AC Γ 182 [fU y] h (.int .i64 y.weight):=by refine az.drop ?_;rw[fU];exact xB [.tmp 2] Tryz.func182
theorem adm{hs}{no:Int}(h:0<=no/\no<hs.length):(fY hs)[no.toNat]? =some (.sl ((gI hs no).map fU) .free):=by
 have:no.toNat<hs.length:=by omega
 rw[fY,List.getElem?_map,gI,List.getD_eq_getElem?_getD,List.getElem?_eq_getElem this];rfl
theorem aql(Γ v hs)(x:Ex)(i h)(hi:h[i]? =some (.row [.func 178 [] []] 245))(rH:0<=x.no/\x.no<hs.length)(hl:(gI hs x.no).length<=100):
  AC Γ 179 [sc v hs,aK x,.ptr (some (i,0))] h (Fr.bM (.mk (-1) 1 (oZ (fun _=>1) (gI hs x.no)))):=by
 have c1:=fun h=>adl Γ (gI hs x.no) 180 (fun _=>1) h hl (fun _ _=>by decide) fun y _ h=>aqj Γ y h;have lF:=(List.getElem?_eq_some_iff.1 hi).1;have gi:∀l,(h++l)[i]? =some (.row [.func 178 [] []] 245):=fun l=>by grind
 have e1:=adm rH;refine az.drop ?_;rw[sc,wC,dM,Fr.iu];refine cS [.cell 5 49] Tryz.func179 ?_;simp(disch:=omega) only[go_sem,seval,gi];refine⟨by omega,?_⟩;rw[e1];refine aU ?_;exact Jg (gY.intro (fun _=>c1 _))
theorem aqm(Γ v hs)(x:Ex)(i h)(hi:h[i]? =some (.row [.func 178 [] []] 245))(rH:0<=x.no/\x.no<hs.length)(hl:(gI hs x.no).length<=100)(hw:∀y∈gI hs x.no,1<=y.weight/\y.weight<=64):
  AC Γ 181 [sc v hs,aK x,.ptr (some (i,0))] h (Fr.bM (.mk (-1) x.n (oZ Hd.weight (gI hs x.no)))):=by
 have c1:=fun h=>adl Γ (gI hs x.no) 182 Hd.weight h hl (fun y hy=>by have:=hw y hy;omega) fun y _ h=>aqk Γ y h;have lF:=(List.getElem?_eq_some_iff.1 hi).1;have gi:∀l,(h++l)[i]? =some (.row [.func 178 [] []] 245):=fun l=>by grind
 have e1:=adm rH;refine az.drop ?_;rw[sc,wC,dM,Fr.iu];refine cS [.cell 5 49] Tryz.func181 ?_;simp(disch:=omega) only[go_sem,seval,gi];refine⟨by omega,?_⟩;rw[e1];refine aU ?_;exact Jg (gY.intro (fun _=>c1 _))
def Bc(Γ:GG)(v:Int)(hs:List (List Hd))(x:Ex):Prop:=
 ∀h,AC Γ 53 [sc v hs,aK x] h (Fr.bM (ig v hs x))
theorem aqn(Γ v hs x h)(hl:x.l.length=2)(IH:∀y∈x.l,Bc Γ v hs y):
  AC Γ 184 [sc v hs,aK x] h (Fr.bM ((x.l.map (ig v hs)).getD (if v<=x.n then 0 else 1) sb)):=by
 obtain⟨a,b,nj⟩:∃a b,x.l=[a,b]:=by
  match hx:x.l with
  |[]=>rw[hx]at hl;cases hl
  |[_]=>rw[hx]at hl;cases hl
  |[a,b]=>exact⟨a,b,rfl⟩
  |_::_::_::_=>rw[hx]at hl;simp at hl
 refine az.drop ?_;simp only[Bc,sc,wC]at IH|-;rw[dM];have ia:=IH a (by rw[nj];simp);have ib:=IH b (by rw[nj];simp);rw[nj,List.map_cons,List.map_cons,List.map_nil,List.map_cons,List.map_cons,List.map_nil];refine cY [.cell 4 49] Tryz.func184 ?_;refine aJ.intro (fun h1=>?_) (fun h1=>?_)<;>simp(disch:=omega) only[go_sem,seval]
 .refine bu (gY.intro (fun _=>ia _)) ?_;rw[if_pos h1];rfl
 .refine bu (gY.intro (fun _=>ib _)) ?_;rw[if_neg h1];rfl
def zy(h:AH)(v:Int)(hs:List (List Hd))(x:Ex)(dn:List Ex)(own:aS.Own):AH:=h++[.row [.int .i64 v,.sl (fY hs) .free] 98,.row [.int .i64 x.k,.int .i64 x.n,.int .i64 x.no,.str ⟨⟨x.name⟩⟩,.sl (x.l.map aK) .free] 26,.row [.int .i64 0,.int .i64 0,.sl [] .full] 49,.row [.int .i64 (-1),.int .i64 x.n,.sl (dn.map fun y=>Fr.bM (ig v hs y)) own] 49]
theorem adn(v hs)(l:List Ex):db 3 (l.map fun y=>Fr.bM (ig v hs y)):=fun r hr=>by obtain⟨x,_,rfl⟩:=List.mem_map.1 hr;refine⟨Fr.aaX _,fun c hc=>?_⟩;cases hx:ig v hs x;rw[hx]at hc;simp only[Fr.iu,AV.cells,List.mem_cons,List.not_mem_nil,or_false]at hc;rcases hc with rfl|rfl|rfl<;>rfl
theorem aqo(Γ v hs x h)(hl:x.l.length<=1000)(IH:∀y∈x.l,Bc Γ v hs y):
  AC Γ 183 [sc v hs,aK x] h (Fr.bM (.mk (-1) x.n (x.l.map (ig v hs)))):=by
 refine az.ji ?_;simp only[Bc,sc,wC]at IH|-;rw[dM,Fr.iu];refine cS [.cell 4 49] Tryz.func183 ?_;simp(disch:=omega) only[go_sem,seval,List.length_map];refine d_ (β:=List Ex×aS.Own×AH) x.l [2,4,5,12,13,14] (fun ae _=>[(2,.ptr (some (h.length,0))),(4,.ptr (some (h.length+2,0))),(5,.ptr (some (h.length+3,0))),(12,.sl (x.l.map aK) .free),(13,.int .i64 x.l.length),(14,.int .i64 ae.length)]) (fun b=>zy h v hs x b.1 b.2.1++b.2.2) (fun ae _ b=>b.1=ae/\fX (zy h v hs x b.1 b.2.1) b.2.2 ae.length b.2.1) ([],.full,[]) ?_ (by simp[zy]) ⟨rfl,trivial⟩ ?_ ?_
 .simp(disch:=omega) only[go_sem,seval,List.length_nil]
 .rintro ae y r ⟨dn,own,X⟩ bT ⟨rfl,cP⟩;simp only at cP|-;have hlen:x.l.length=dn.length+1+r.length:=by rw[bT];simp;omega
  have e1:(x.l.map aK)[dn.length]? =some (aK y):=by rw[bT];exact fZ ..
  have c4:=IH y (by rw[bT];simp);rw[dM]at e1 c4;simp(disch:=omega) only[go_sem,seval,zy];refine aJ.pos (by omega) ?_;simp(disch:=omega) only[go_sem,seval,e1];refine gY.intro (fun _=>c4 _) ?_;simp(disch:=omega) only[go_sem,seval];have eh:∀dn own X,h++ .row [.int .i64 v,.sl (fY hs) .free] 98:: .row [.int .i64 x.k,.int .i64 x.n,.int .i64 x.no,.str ⟨⟨x.name⟩⟩,.sl (x.l.map aK) .free] 26:: .row [.int .i64 0,.int .i64 0,.sl [] .full] 49:: .row [.int .i64 (-1),.int .i64 x.n,.sl (dn.map fun y=>Fr.bM (ig v hs y)) own] 49::X=zy h v hs x dn own++X:=fun dn own X=>by simp[zy]
  rw[eh];refine pV (by rw[List.length_map];exact cP.app _) (adn v hs _) (adn v hs [y]) (by simp;omega) (by simp;omega) fun j' eY iG hg=>?_;rw[zy];refine aU ?_;refine cd (dn++[y],eY,j') ⟨rfl,?_⟩ ?_ ?_
  .refine fX.len (K:=zy h v hs x dn own) ?_ (by simp[zy]);simpa using iG
  .simp(disch:=omega) only[go_sem,seval,List.length_append]
  .simp
 .rintro⟨dn,own,X⟩ ⟨rfl,cP⟩;simp only at cP|-;simp(disch:=omega) only[go_sem,seval,zy];refine jL [4,5] ?_;simp(disch:=omega) only[go_sem,seval];rw[show x.l.map (fun y=>Fr.bM (ig v hs y))=(x.l.map (ig v hs)).map Fr.bM from by rw[List.map_map];rfl,Fr.Ov];exact⟨Fr.Ow _ _▸trivial,rfl⟩
def KV(b:Nat):List (Int×AV):=[(1,.func 179 [] [.ptr (some (b,0))]),(2,.func 181 [] [.ptr (some (b,0))]),(3,.func 183 [] []),(4,.func 184 [] [])]
def GX(b:Nat):AH:=[.row [.func 178 [] []] 245,.map (qW (fun n=> .int .i64 n) id 0 (KV b)) 4]
theorem aqp(Γ h):az Tryz.prog Γ 117 [] h fun w h'=>h'=h++GX h.length/\w= .map (some (h.length+1)):=by refine cY [.tmp 0] Tryz.func117 ?_;have st:∀(k:Int) (V:AV) (m:List (Int×AV)),(kr (.int .i64 k) (qW (fun n=> .int .i64 n) id 0 m)).bind (sD (qW (fun n=> .int .i64 n) id 0 m) m.length (.int .i64 k) V)=some (.map (qW (fun n=> .int .i64 n) id 0 (zx k V m)) (zx k V m).length):=fun k V m=>aqb (fun n=> .int .i64 n) id k V m (UG id k m 0);refine bu ((congrArg (fun z=>Cc z _ _ _) (st 1 _ [])).mpr) ?_;refine bu ((congrArg (fun z=>Cc z _ _ _) (st 2 _ _)).mpr) ?_;refine bu ((congrArg (fun z=>Cc z _ _ _) (st 3 _ _)).mpr) ?_;refine bu ((congrArg (fun z=>Cc z _ _ _) (st 4 _ _)).mpr) ?_;rfl
def pH(h:AH)(v:Int)(hs:List (List Hd))(x:Ex)(g:List AV):AH:=h++[.row [.int .i64 v,.sl (fY hs) .free] 98,.row [.int .i64 x.k,.int .i64 x.n,.int .i64 x.no,.str ⟨⟨x.name⟩⟩,.sl (x.l.map aK) .free] 26,.row g 49]
def UI(b:Nat)(k:Int):AV:=if k=1 then .func 179 [] [.ptr (some (b,0))]else if k=2 then .func 181 [] [.ptr (some (b,0))]else if k=3 then .func 183 [] []else .func 184 [] []
theorem aqq(b k)(h:1<=k/\k<=4):CQ k (KV b)=some (UI b k):=by
 obtain e|e|e|e:k=1\/k=2\/k=3\/k=4:=by omega
 all_goals subst e;rfl
theorem ado(Γ:GG)(v:Int)(hs:List (List Hd))(H:JS hs [])(o:List Tx)(u:Bool)(ho:o.length=hs.length)(O6:∀l∈hs,l.length<=100):∀(m:Nat) (x:Ex),SizeOf.sizeOf x<m->rT o u x=true->Bc Γ v hs x
 |0,_,hk,_=>absurd hk (Nat.not_lt_zero _)
 |m+1,x,cj,eD=>by
  have IH:∀y∈x.l,Bc Γ v hs y:=fun y hy=>ado Γ v hs H o u ho O6 m y (by cases x;exact pX hy cj) (JN eD hy);have p7:=JM eD;have hk:=NF p7;intro h;have hd:=UD v hs x;have rH:x.k=1\/x.k=2->0<=x.no/\x.no<hs.length:=fun e=>by have:=ZT p7 e;omega
  obtain⟨p,n,l,hg⟩:∃p n l,ig v hs x= .mk p n l:=by cases ig v hs x with|mk p n l=>exact⟨p,n,l,rfl⟩
  refine az.ji ?_;rw[dM,sc,wC,hg,Fr.iu];refine tO [.cell 4 49] Tryz.func53 ?_;refine cI ?_;obtain⟨b,hb⟩:∃b,b=h.length+3:=⟨_,rfl⟩;obtain⟨sd,lS⟩:∃sd:List Nat->AH,sd=fun done=>if 7∈done then pH h v hs x [.int .i64 p,.int .i64 n,.sl (l.map Fr.bM) .free]++GX b else if 0∈done then pH h v hs x [.int .i64 0,.int .i64 0,.sl [] .full]++GX b else pH h v hs x [.int .i64 0,.int .i64 0,.sl [] .full]:=⟨_,rfl⟩
  have lQ:∀g,(pH h v hs x g).length=b:=fun g=>by rw[hb];simp[pH]
  have g0:∀g l,(pH h v hs x g++l)[h.length]? =some (.row [.int .i64 v,.sl (fY hs) .free] 98):=fun g l=>by simp[pH]
  have g1:∀g l,(pH h v hs x g++l)[h.length+1]? =some (.row [.int .i64 x.k,.int .i64 x.n,.int .i64 x.no,.str ⟨⟨x.name⟩⟩,.sl (x.l.map aK) .free] 26):=fun g l=>by simp[pH]
  have g2:∀g l,(pH h v hs x g++l)[h.length+2]? =some (.row g 49):=fun g l=>by simp[pH]
  have s2:∀g g' l,(pH h v hs x g++l).set (h.length+2) (.row g' 49)=pH h v hs x g'++l:=fun g g' l=>by simp[pH]
  have fC:h++[.row [.int .i64 v,.sl (fY hs) .free] 98,.row [.int .i64 x.k,.int .i64 x.n,.int .i64 x.no,.str ⟨⟨x.name⟩⟩,.sl (x.l.map aK) .free] 26,.row [.int .i64 0,.int .i64 0,.sl [] .full] 49]=sd []:=by rw[lS];rfl
  rw[fC];obtain⟨val,c_⟩:∃val:Nat->AV,val=fun i=>([.map (some (b+1)),.ptr (some (h.length+1,0)),.int .i64 x.k,UI b x.k,.agg [.int .i64 v,.sl (fY hs) .free],.agg [.int .i64 x.k,.int .i64 x.n,.int .i64 x.no,.str ⟨⟨x.name⟩⟩,.sl (x.l.map aK) .free],.agg [.int .i64 p,.int .i64 n,.sl (l.map Fr.bM) .free]]:List AV).getD i .top:=⟨_,rfl⟩;obtain⟨Iv,lz⟩:∃Iv:List Nat->Tm->AH->Prop,Iv=fun done σ h'=>lk σ 2= .ptr (some (h.length,0))/\lk σ 3= .ptr (some (h.length+1,0))/\lk σ 4= .ptr (some (h.length+2,0))/\(∀k∈done,k<7->lk σ (5+k)=val k)/\h'=sd done:=⟨_,rfl⟩;have adp:∀(k:Nat) (done:List Nat) (σ:Tm) (h':AH),k<7->Iv done σ h'->k≠0->Iv (k::done) (put (some (5+k)) (val k) σ) h':=fun k done σ h' hk hI h0=>by
   rw[lz]at hI|-;obtain⟨a1,a2,a3,a4,a5⟩:=hI;refine⟨?_,?_,?_,fun j hj O7=>?_,?_⟩
   .rw[kU (by omega)];exact a1
   .rw[kU (by omega)];exact a2
   .rw[kU (by omega)];exact a3
   .by_cases e:j=k
    .rw[e,y_]
    .rw[kU (by omega)];grind
   grind
  have vals:val 0= .map (some (b+1))/\val 1= .ptr (some (h.length+1,0))/\val 2= .int .i64 x.k/\val 3=UI b x.k/\val 4= .agg [.int .i64 v,.sl (fY hs) .free]/\val 5= .agg [.int .i64 x.k,.int .i64 x.n,.int .i64 x.no,.str ⟨⟨x.name⟩⟩,.sl (x.l.map aK) .free]/\val 6= .agg [.int .i64 p,.int .i64 n,.sl (l.map Fr.bM) .free]:=by rw[c_];exact⟨rfl,rfl,rfl,rfl,rfl,rfl,rfl⟩
  obtain⟨w0,w1,w2,w3,w4,w5,w6⟩:=vals;have G0:∀done,(sd done)[h.length]? =some (.row [.int .i64 v,.sl (fY hs) .free] 98):=fun done=>by
   rw[lS];simp only;split
   .exact g0 _ _
   .split
    .exact g0 _ _
    grind
  have G1:∀done,(sd done)[h.length+1]? =some (.row [.int .i64 x.k,.int .i64 x.n,.int .i64 x.no,.str ⟨⟨x.name⟩⟩,.sl (x.l.map aK) .free] 26):=fun done=>by
   rw[lS];simp only;split
   .exact g1 _ _
   .split
    .exact g1 _ _
    .have:=g1 [.int .i64 0,.int .i64 0,.sl [] .full] [];rwa [List.append_nil]at this
  have H0:∀done,0∉done->7∉done->sd done=pH h v hs x [.int .i64 0,.int .i64 0,.sl [] .full]:=fun done e0 e7=>by grind
  have H1:∀done,0∈done->7∉done->sd done=pH h v hs x [.int .i64 0,.int .i64 0,.sl [] .full]++GX b:=fun done e0 e7=>by grind
  have H7:∀done,7∈done->sd done=pH h v hs x [.int .i64 p,.int .i64 n,.sl (l.map Fr.bM) .free]++GX b:=fun done e7=>by rw[lS];simp only;rw[if_pos e7]
  refine fR (alz [[],[],[1],[0,2],[],[],[3,4,5],[6]] Iv Ty.mixed (by kernel_rfl) (by kernel_rfl) (by kernel_rfl) ?_ ?_ ?_)
  .rw[lz];exact⟨rfl,rfl,rfl,(fun k hk=>by cases hk),rfl⟩
  .intro i op tY done σ h' hI dr dG dy C hC;have gT:=hI;rw[lz]at hI;obtain⟨a1,a2,a3,a4,a5⟩:=hI;rcases i with _|_|_|_|_|_|_|_|i;all_goals simp only[List.getElem?_toArray,List.getElem?_cons_zero,List.getElem?_cons_succ,Option.some.injEq,List.getElem?_nil,reduceCtorEq,Nat.zero_add,Nat.reduceAdd]at tY
   all_goals subst tY
   all_goals rw[AP]
   all_goals subst a5
   .have e7:7∉done:=fun e=>by have e6:=dG 7 e 6 (by decide);have e3:=dG 6 e6 3 (by decide);exact dy (dG 3 e3 0 (by decide))
    rw[H0 done dy e7]at gT|-;refine aU ?_;refine az.eT (aqp Γ _) ?_;refine hC _ _ ?_;rw[lz];refine⟨?_,?_,?_,fun j hj O7=>?_,?_⟩
    .rw[kU (by omega)];exact a1
    .rw[kU (by omega)];exact a2
    .rw[kU (by omega)];exact a3
    .rcases List.mem_cons.1 hj with rfl|hj
     .rw[y_,w0,lQ]
     .have EU:j≠0:=fun e=>dy (e▸hj);rw[kU (by omega)];exact a4 j hj O7
    grind
   .simp(disch:=omega) only[go_sem,seval,a2];grind
   .have v1:=(a4 1 (dr 1 (by decide)) (by decide)).trans w1;simp(disch:=omega) only[go_sem,seval,v1,G1];grind
   .have v0:=(a4 0 (dr 0 (by decide)) (by decide)).trans w0;have v2:=(a4 2 (dr 2 (by decide)) (by decide)).trans w2;have e7:7∉done:=fun e=>by have e6:=dG 7 e 6 (by decide);exact dy (dG 6 e6 3 (by decide))
    have gm:(sd done)[b+1]? =some (.map (qW (fun n=> .int .i64 n) id 0 (KV b)) 4):=by rw[H1 done (dr 0 (by decide)) e7,List.getElem?_append_right (by rw[lQ];omega),lQ,show b+1-b=1 by omega];rfl
    simp(disch:=omega) only[go_sem,seval,v0,v2,gm];rw[aqa _ _ _ _ x.k (KV b) (UG _ x.k (KV b) 0),aqq b x.k hk];have:=adp 3 done σ _ (by decide) gT (by decide);rw[w3]at this;exact hC _ _ this
   .simp(disch:=omega) only[go_sem,seval,a1,G0];grind
   .simp(disch:=omega) only[go_sem,seval,a2,G1];grind
   .have v3:=(a4 3 (dr 3 (by decide)) (by decide)).trans w3;have v4:=(a4 4 (dr 4 (by decide)) (by decide)).trans w4;have v5:=(a4 5 (dr 5 (by decide)) (by decide)).trans w5;have e0:0∈done:=dG 3 (dr 3 (by decide)) 0 (by decide);have e7:7∉done:=fun e=>dy (dG 7 e 6 (by decide));have this:=adp 6 done σ _ (by decide) gT (by decide);rw[w6]at this;have gw:∀e:x.k=1\/x.k=2,(gI hs x.no).length<=100:=fun e=>O6 _ (JT (rH e));have gk:(sd done)[b]? =some (.row [.func 178 [] []] 245):=by rw[H1 done e0 e7,List.getElem?_append_right (by rw[lQ];omega),lQ,Nat.sub_self];rfl
    obtain e|e|e|e:x.k=1\/x.k=2\/x.k=3\/x.k=4:=by omega
    .have EV:ig v hs x= .mk (-1) 1 (oZ (fun _=>1) (gI hs x.no)):=by rw[hd];rw[if_pos e]
     have c:=aql Γ v hs x b (sd done) gk (rH (.inl e)) (gw (.inl e));rw[<-EV,hg,Fr.iu,sc,wC,dM,e]at c;rw[e]at v3 v5;simp(disch:=omega) only[go_sem,seval,show lk σ 8= .func 179 [] [.ptr (some (b,0))]from v3,v4,v5];refine az.cv c ?_;exact hC _ _ this
    .have EV:ig v hs x= .mk (-1) x.n (oZ Hd.weight (gI hs x.no)):=by rw[hd];rw[if_neg (by omega),if_pos e]
     have c:=aqm Γ v hs x b (sd done) gk (rH (.inr e)) (gw (.inr e)) (H.wt _ (JT (rH (.inr e))));rw[<-EV,hg,Fr.iu,sc,wC,dM,e]at c;rw[e]at v3 v5;simp(disch:=omega) only[go_sem,seval,show lk σ 8= .func 181 [] [.ptr (some (b,0))]from v3,v4,v5];refine az.cv c ?_;exact hC _ _ this
    .have EV:ig v hs x= .mk (-1) x.n (x.l.map (ig v hs)):=by rw[hd];rw[if_neg (by omega),if_neg (by omega),if_pos e]
     have c:=aqo Γ v hs x (sd done) (by have:=NH p7 e;omega) IH;rw[<-EV,hg,Fr.iu,sc,wC,dM,e]at c;rw[e]at v3 v5;simp(disch:=omega) only[go_sem,seval,show lk σ 8= .func 183 [] []from v3,v4,v5];refine az.cv c ?_;exact hC _ _ this
    .have EV:ig v hs x=(x.l.map (ig v hs)).getD (if v<=x.n then 0 else 1) sb:=by rw[hd];rw[if_neg (show¬x.k=1 by omega),if_neg (show¬x.k=2 by omega),if_neg (show¬x.k=3 by omega)]
     have c:=aqn Γ v hs x (sd done) (SI p7 e).1 IH;rw[<-EV,hg,Fr.iu,sc,wC,dM,e]at c;rw[e]at v3 v5;simp(disch:=omega) only[go_sem,seval,show lk σ 8= .func 184 [] []from v3,v4,v5];refine az.cv c ?_;exact hC _ _ this
   .have v6:=(a4 6 (dr 6 (by decide)) (by decide)).trans w6;have e0:0∈done:=dG 3 (dG 6 (dr 6 (by decide)) 3 (by decide)) 0 (by decide);rw[H1 done e0 dy]at gT|-;simp(disch:=omega) only[go_sem,seval,a3,v6,g2];rw[s2];refine hC _ _ ?_;rw[lz];exact⟨a1,a2,a3,fun j hj O7=>a4 j ((List.mem_cons.1 hj).resolve_left (by omega)) O7,(H7 _ (by simp)).symm⟩
  .intro done σ h' kK hI;rw[lz]at hI;obtain⟨a1,a2,a3,a4,a5⟩:=hI;have h7:7∈done:=kK 7 (by decide);have h0:sd done=pH h v hs x [.int .i64 p,.int .i64 n,.sl (l.map Fr.bM) .free]++GX b:=by rw[lS];simp only;rw[if_pos h7]
   rw[a5,h0];refine aU ?_;refine gO ?_;simp(disch:=omega) only[go_sem,seval,a3,g2];exact⟨_,by rw[pH,List.append_assoc]⟩
theorem adr(Γ v hs)(H:JS hs [])(o u)(ho:o.length=hs.length)(O6:∀l∈hs,l.length<=100)(x)(hx:rT o u x=true):Bc Γ v hs x:=
 ado Γ v hs H o u ho O6 _ x (Nat.lt_succ_self _) hx
theorem ads{p kind value hs who}(h:(eZ p kind value hs who).2=0):dp p=0/\(0<=kind/\kind<p.kinds.length)/\(0<=value/\value<=1099511627776)/\j8 hs p.bf.length=true/\iS who=true:=by rw[eZ]at h;grind
theorem adt{p hs who}(h:(uV p hs who).2=0):dp p=0/\j8 hs p.bf.length=true/\iS who=true:=by rw[uV]at h;grind
def CS(k:Int):List Rl->Nat->Int
 |[],_=>-1
 |r::l,i=>if r.lK=k then i else CS k l (i+1)
theorem adu{o:List Tx}{k:Int}:∀(l:List Rl) (i:Nat),h_ o i l=true->(i:Int)<=k->k<i+l.length->CS k l i=k
 |[],i,_,h1,h2=>by simp at h2;omega
 |r::l,i,h,h1,h2=>by
  rw[h_,Bool.and_eq_true,Bool.and_eq_true,beq_iff_eq]at h;rw[List.length_cons]at h2;rw[CS,h.1.1];split
  .omega
  .exact adu l (i+1) h.2 (by omega) (by omega)
theorem aqt(Γ r k b h)(hb:h[b]? =some (.row [.int .i64 k] 3)):
  AC Γ 108 [bY r,.ptr (some (b,0))] h (.bool (decide (r.lK=k))):=by
 refine az.drop ?_;rw[rO];have g:∀l,(h++l)[b]? =some (.row [.int .i64 k] 3):=fun l=>by grind
 refine cS [.tmp 3] Tryz.func108 ?_;simp(disch:=omega) only[go_sem,seval,g]
theorem aqu(Γ l k b h)(hb:h[b]? =some (.row [.int .i64 k] 3))(hl:l.length<=1000000):
  AC Γ 107 [.sl (l.map bY) .free,.func 108 [] [.ptr (some (b,0))]] h (.int .i64 (CS k l 0)):=by
 refine cY [.tmp 4] Tryz.func107 ?_;refine d_ (β:=Unit) l [8,7,1,0] (fun ae _=>[(8,.int .i64 ae.length),(7,.int .i64 l.length),(1,.func 108 [] [.ptr (some (b,0))]),(0,.sl (l.map bY) .free)]) (fun _=>h) (fun ae rest _=>CS k l 0=CS k rest ae.length) () ?_ rfl rfl ?_ ?_
 .simp(disch:=omega) only[go_sem,seval]
 .rintro ae x r _ hd hs;have hlen:l.length=ae.length+1+r.length:=by rw[hd];simp;omega
  have e1:(l.map bY)[ae.length]? =some (bY x):=by rw[hd];exact fZ ..
  have c:=aqt Γ x k b h hb;rw[rO]at e1 c;simp(disch:=omega) only[go_sem,seval];refine aJ.pos (by omega) ?_;simp(disch:=omega) only[go_sem,seval,e1];refine bu (az.eT c) ?_;rw[CS]at hs;refine aJ.intro (fun hb=>?_) (fun hb=>?_)<;>simp(disch:=omega) only[go_sem,seval]
  .rw[hs,if_pos hb]
  .refine cd () (by grind) ?_ rfl;simp(disch:=omega) only[go_sem,seval,List.length_append]
 .rintro _ hs;refine aU ?_;refine fE [0] ?_;rw[hs];rfl
theorem adv(Γ g h)(hg:Fr.Sh g):
  AC Γ 52 [Fr.bM g] h (.tuple [Fr.bM (pG g).1,.int .i64 (pG g).2]):=by
 have c:=fun h=>Fr.GC Γ g h hg;have hd:pG g=if Fr.dp g=0 then(g,0)else(sb,2):=rfl
 obtain⟨p,n,l,rfl⟩:∃p n l,g= .mk p n l:=by cases g with|mk p n l=>exact⟨p,n,l,rfl⟩
 refine az.ji ?_;rw[Fr.iu]at c|-;refine cY [.cell 2 49,.tmp 3] Tryz.func52 ?_;refine bL (c _) ?_;refine aJ.intro (fun h1=>?_) (fun h1=>?_)<;>simp(disch:=omega) only[go_sem,seval]
 .rw[hd,if_pos h1,Fr.iu];try simp only[eI,loose,Fr.Ov]
 .rw[hd,if_neg h1,sb,Fr.iu];grind
structure GY(p:iq)(hs:List (List Hd)):Prop where
 sh:lO p
 sz:∀x∈exprs p,dT x<=1000
 rl:p.rules.length<=1000000
 n:hs.length<=1000
 l:∀l∈hs,l.length<=100
theorem GY.KY{p hs}(h:GY p hs){who}(hw:who.length<=1000):S6 hs who:=⟨h.n,fun l hl=>by have:=h.l l hl;omega,hw⟩
theorem aqv(Γ)(gH:Γ 0=some qD)(p hs h)(F:GY p hs):
  AC Γ 18 [iI p,.sl (fY hs) .free] h (.tuple [Fr.bM (s8 p hs).1,.int .i64 (s8 p hs).2]):=by
 have c1:=fun h=>aad Γ gH p hs [] h F.sh F.sz F.rl (F.KY (by simp));have hd:s8 p hs=if(uV p hs []).2≠0 then(sb,(uV p hs []).2)else pG (ig 0 hs p.change):=rfl
 have h0:=adt (p:=p) (hs:=hs) (who:=[]);obtain⟨⟨r1,r2⟩,hr⟩:∃r,uV p hs []=r:=⟨_,rfl⟩;rw[hr]at c1 hd h0;rw[AT]at c1;refine az.ji ?_;rw[jj]at*;refine cY [.cell 4 49,.tmp 5] Tryz.func18 ?_;refine az.tP (az.cv (c1 _) ?_) (by simp only[eI,loose,Jj,M7,xC,RC];rfl);refine aU ?_;refine aJ.intro (fun h1=>?_) (fun h1=>?_)<;>simp(disch:=omega) only[go_sem,seval];rotate_left
 .rw[hd,if_pos h1,sb,Fr.iu];simp only[List.map_nil]
 rw[if_neg (by simpa using h1)]at hd;obtain⟨k1,k2,k3⟩:=h0 h1;obtain⟨H,hn⟩:=NQ k2 k3;have hx:=(JP k1).1;have c2:=adr Γ 0 hs H p.bf false (by omega) F.l p.change hx;have EW:Fr.Sh (ig 0 hs p.change):=O2 k2 hx;have c3:=fun h=>adv Γ _ h EW;rw[<-hd]at c3;generalize s8 p hs=r at c3;obtain⟨⟨gp,gn,gl⟩,e⟩:=r;rw[Bc,sc,wC,dM]at c2;obtain⟨fp,fn,fl,hf⟩:∃a n l,ig 0 hs p.change= .mk a n l:=by cases ig 0 hs p.change with|mk a n l=>exact⟨a,n,l,rfl⟩
 rw[hf,Fr.iu]at c2 c3;rw[Fr.iu]at c3|-;refine bL (c2 _) ?_;exact qx (c3 _)
theorem aqy(Γ)(gH:Γ 0=some qD)(p kind value hs h)(F:GY p hs):
  AC Γ 44 [iI p,.int .i64 kind,.int .i64 value,.sl (fY hs) .free] h (.tuple [Fr.bM (kZ p kind value hs).1,.int .i64 (kZ p kind value hs).2]):=by
 have c1:=fun h=>S7 Γ gH p kind value hs [] h F.sh F.sz F.rl (F.KY (by simp));have hd:kZ p kind value hs=if(eZ p kind value hs []).2≠0 then(sb,(eZ p kind value hs []).2)else pG (((p.rules[kind.toNat]?).map fun r=>ig value hs r.x).getD sb):=rfl
 have h0:=ads (p:=p) (kind:=kind) (value:=value) (hs:=hs) (who:=[]);obtain⟨⟨r1,r2⟩,hr⟩:∃r,eZ p kind value hs []=r:=⟨_,rfl⟩;rw[hr]at c1 hd h0;rw[AT]at c1;refine az.ji ?_;rw[jj]at*;refine cY [.cell 8 49,.tmp 9] Tryz.func44 ?_;refine az.tP (az.cv (c1 _) ?_) (by simp only[eI,loose,Jj,M7,xC,RC];rfl);refine aU ?_;refine aJ.intro (fun h1=>?_) (fun h1=>?_)<;>simp(disch:=omega) only[go_sem,seval];rotate_left
 .rw[hd,if_pos h1,sb,Fr.iu];simp only[List.map_nil]
 rw[if_neg (by simpa using h1)]at hd;obtain⟨k1,kk,kv,k2,k3⟩:=h0 h1;obtain⟨H,hn⟩:=NQ k2 k3;obtain⟨r,hr,e1,xP⟩:=OH k1 kk;have hx:=(JO k1 xP).1;have hlen:=NI k1;have c2:=adr Γ value hs H p.bf true (by omega) F.l r.x hx;have EW:Fr.Sh (ig value hs r.x):=O2 k2 hx;have c3:=fun h=>adv Γ _ h EW;rw[hr]at hd;have dr:kZ p kind value hs=pG (ig value hs r.x):=hd;rw[<-dr]at c3;generalize kZ p kind value hs=q at c3;obtain⟨⟨gp,gn,gl⟩,e⟩:=q;rw[Bc,sc,wC,dM]at c2;obtain⟨fp,fn,fl,hf⟩:∃p n l,ig value hs r.x= .mk p n l:=by cases ig value hs r.x with|mk p n l=>exact⟨p,n,l,rfl⟩
 rw[hf,Fr.iu]at c2 c3;rw[Fr.iu]at c3|-;have hfi:CS kind p.rules 0=kind:=adu p.rules 0 (xN k1).2.2.2.1 (by omega) (by omega);rw[rO]at e1;refine az.cv (aqu Γ p.rules kind (h.length+1) _ (by simp) F.rl) ?_;rw[hfi];refine aU ?_;refine bu (aJ.neg (by omega)) ?_;refine⟨by omega,?_⟩;rw[e1];refine aU ?_;refine bL (c2 _) ?_;exact qx (c3 _)
theorem afJ(Γ:GG):∀(m:Nat) (x:Ex) (lim:Nat) (h:AH),SizeOf.sizeOf x<m->fj x->lim<=1000000->AC Γ 25 [aK x,.int .i64 lim] h (.int .i64 (min (dT x) (lim+1):Nat))
 |0,_,_,_,hk,_,_=>absurd hk (Nat.not_lt_zero _)
 |m+1,.mk k n no s l,lim,h,cj,hs,sO=>by
  refine az.drop ?_;refine cS [.tmp 4] Tryz.func25 ?_;simp only[mu];refine aU ?_;have nN:=hs.len;refine d_ (β:=Unit) l [1,2,5,6] (fun ae _=>[(1,.int .i64 lim),(2,.ptr (some (h.length,0))),(5,.int .i64 (min (iJ ae+1) (lim+1):Nat)),(6,.int .i64 ae.length)]) (fun _=>h++[.row [.int .i64 k,.int .i64 n,.int .i64 no,.str ⟨⟨s⟩⟩,.sl (l.map aK) .free] 26]) (fun _ _ _=>True) () ?_ rfl trivial ?_ ?_
  .simp(disch:=omega) only[go_sem,seval,List.length_nil,iJ];simp
  .rintro ae x r _ hd _;have hlen:l.length=ae.length+1+r.length:=by rw[hd];simp;omega
   have e1:(l.map aK)[ae.length]? =some (aK x):=by rw[hd];exact fZ ..
   simp(disch:=omega) only[go_sem,seval,List.length_map];refine bu (aJ.pos (by omega)) ?_;have hb:=M9 ae [x];simp only[iJ,Nat.add_zero]at hb;have jH:iJ l=iJ ae+(dT x+iJ r):=by rw[hd,M9,iJ]
   have hp:=size_pos x;refine aJ.intro (fun hc=>?_) (fun hc=>?_)<;>simp(disch:=omega) only[go_sem,seval,e1]
   .refine bL ((afJ Γ m x (lim-(iJ ae+1)) _ (pX (by rw[hd];simp) cj) (hs.mem x (by rw[hd];simp)) (by omega)).args (by grind)) ?_;refine cd () trivial ?_ rfl;simp(disch:=omega) only[go_sem,seval,List.length_append,hb];grind
   .refine fE [5] ?_;rw[dT];congr 1;omega
  .rintro _ _;simp(disch:=omega) only[go_sem,seval,List.length_map];refine fE [5] ?_;rw[dT]
theorem atL(Γ x)(lim:Nat)(h)(hs:fj x)(sO:lim<=1000000):AC Γ 25 [aK x,.int .i64 lim] h (.int .i64 (min (dT x) (lim+1):Nat)):=
 afJ Γ _ x lim h (Nat.lt_succ_self _) hs sO
def HG(p:iq)(hs:List (List Hd)):Bool:=decide (p.kinds.length<=20/\p.bf.length<=40/\p.rules.length<=20/\hs.length<=40)&&(decide (dT p.change<=60)&&(p.rules.all (fun r=>decide (dT r.x<=60))&&hs.all (fun l=>decide (l.length<=10))))
theorem afK(Γ p hs h)(hp:lO p)(hl:hs.length<=9223372036854775807)(j7:∀l∈hs,l.length<=9223372036854775807):AC Γ 5 [iI p,.sl (fY hs) .free] h (.bool (HG p hs)):=by
 have c1:=fun x h hx=>atL Γ x 60 h hx (by omega);have hk:=hp.kinds;have ho:=hp.bf;have hr:=hp.rules;have hd:HG p hs=(decide (p.kinds.length<=20/\p.bf.length<=40/\p.rules.length<=20/\hs.length<=40)&&(decide (dT p.change<=60)&&(p.rules.all (fun r=>decide (dT r.x<=60))&&hs.all (fun l=>decide (l.length<=10))))):=rfl;refine az.drop ?_;rw[jj];refine cS [.tmp 4] Tryz.func5 ?_;simp(disch:=omega) only[go_sem,seval,kA];refine aJ.intro (fun h1=>?_) (fun h1=>?_)<;>simp(disch:=omega) only[go_sem,seval,kA]
 .grind
 refine aJ.intro (fun h2=>?_) (fun h2=>?_)<;>simp(disch:=omega) only[go_sem,seval,List.length_map]
 .grind
 refine aJ.intro (fun h3=>?_) (fun h3=>?_)<;>simp(disch:=omega) only[go_sem,seval,Cg]
 .grind
 refine aJ.intro (fun h3b=>?_) (fun h3b=>?_)<;>simp(disch:=omega) only[go_sem,seval]
 .grind
 rw[decide_eq_true (by omega),Bool.true_and]at hd;have c3:=fun h=>c1 p.change h hp.change;rw[dM]at c3;refine bL (c3 _) ?_;refine aJ.intro (fun h4=>?_) (fun h4=>?_)<;>simp(disch:=omega) only[go_sem,seval]
 .grind
 rw[decide_eq_true (by omega),Bool.true_and]at hd;refine d_ (β:=Unit) p.rules [1,2,5] (fun ae _=>[(1,.sl (fY hs) .free),(2,.ptr (some (h.length,0))),(5,.int .i64 ae.length)]) (fun _=>h++[.row [.str ⟨⟨p.name⟩⟩,.sl (bq p.kinds) .free,.sl (bq p.bf) .free,.sl (p.rules.map bY) .free,.int .i64 p.change.k,.int .i64 p.change.n,.int .i64 p.change.no,.str ⟨⟨p.change.name⟩⟩,.sl (p.change.l.map aK) .free,.int .i64 p.mode] 28]) (fun ae _ _=>ae.all (fun r=>decide (dT r.x<=60))=true) () ?_ rfl rfl ?_ ?_
 .simp(disch:=omega) only[go_sem,seval,List.length_nil]
 .rintro ae x r _ bT hI;have hlen:p.rules.length=ae.length+1+r.length:=by rw[bT];simp;omega
  have e1:(p.rules.map bY)[ae.length]? =some (bY x):=by rw[bT];exact fZ ..
  have hx:x∈p.rules:=by rw[bT];simp
  have c4:=fun h=>c1 x.x h (hp.xD x hx);rw[dM]at c4;rw[rO]at e1;simp(disch:=omega) only[go_sem,seval,List.length_map];refine aJ.pos (by omega) ?_;simp(disch:=omega) only[go_sem,seval,e1];refine bL (c4 _) ?_;refine aJ.intro (fun h5=>?_) (fun h5=>?_)<;>simp(disch:=omega) only[go_sem,seval]
  .grind
  .refine cd () ?_ ?_ rfl
   .grind
   .simp(disch:=omega) only[go_sem,seval,List.length_append]
 .rintro _ hI;simp(disch:=omega) only[go_sem,seval,List.length_map];rw[hI,Bool.true_and]at hd;refine fE [1] ?_;refine d_ (β:=Unit) hs [1,6] (fun ae _=>[(1,.sl (fY hs) .free),(6,.int .i64 ae.length)]) (fun _=>h++[.row [.str ⟨⟨p.name⟩⟩,.sl (bq p.kinds) .free,.sl (bq p.bf) .free,.sl (p.rules.map bY) .free,.int .i64 p.change.k,.int .i64 p.change.n,.int .i64 p.change.no,.str ⟨⟨p.change.name⟩⟩,.sl (p.change.l.map aK) .free,.int .i64 p.mode] 28]) (fun ae _ _=>ae.all (fun l=>decide (l.length<=10))=true) () ?_ rfl rfl ?_ ?_
  .simp(disch:=omega) only[go_sem,seval,List.length_nil]
  .rintro ae x r _ bT Ae;have hlen:hs.length=ae.length+1+r.length:=by rw[bT];simp;omega
   have e1:(fY hs)[ae.length]? =some (.sl (x.map fU) .free):=by rw[bT];exact fZ ..
   have iD:=j7 x (by rw[bT];simp);simp(disch:=omega) only[go_sem,seval,Cg];refine aJ.pos (by omega) ?_;simp(disch:=omega) only[go_sem,seval,e1,List.length_map];refine aJ.intro (fun h5=>?_) (fun h5=>?_)<;>simp(disch:=omega) only[go_sem,seval]
   .grind
   .refine cd () ?_ ?_ rfl
    .grind
    .simp(disch:=omega) only[go_sem,seval,List.length_append]
  .rintro _ Ae;simp(disch:=omega) only[go_sem,seval,Cg];refine fE [] ?_;rw[hd,Ae]
theorem PX(l a):Fr.fV a l=jE a l:=by
 induction l generalizing a with
 |nil=>rfl
 |cons n r ih=>rw[Fr.fV,jE,ih,Bool.decide_and]
theorem afL{g who}(hw:iS who=true)(hg:Fr.Sh g):((pG g).2=0\/(pG g).2=2)/\((pG g).2=0->Fr.Sh (pG g).1/\Fr.rZ (pG g).1 who=(Fr.ie (fun p=>decide (p∈who)) g,0)):=by
 rw[pG];by_cases h:Fr.dp g=0
 .rw[if_pos h];refine⟨.inl rfl,fun _=>⟨hg,?_⟩⟩;rw[Fr.rZ,if_pos h,PX,show jE (-1) who=true from hw,if_pos rfl]
 grind
theorem PY{p kind value hs who}(h:(eZ p kind value hs who).2=0):
  ((kZ p kind value hs).2=0\/(kZ p kind value hs).2=2)/\((kZ p kind value hs).2=0->Fr.Sh (kZ p kind value hs).1/\Fr.rZ (kZ p kind value hs).1 who=((eZ p kind value hs who).1,0)):=by
 obtain⟨k1,kk,kv,k2,k3⟩:=ads h;obtain⟨r,hr,_,xP⟩:=OH k1 kk;have hx:=(JO k1 xP).1;have OB:=OG (who:=[]) k1 kk kv k2 rfl hr;have vo:=OG (who:=who) k1 kk kv k2 k3 hr;have hc:kZ p kind value hs=pG (ig value hs r.x):=by rw[kZ,OB,if_neg (by simp),hr];rfl
 have:=afL k3 (O2 (v:=value) k2 hx);rw[adg k2 hx]at this;rw[hc,vo];exact this
theorem atN{p hs who}(h:(uV p hs who).2=0):
  ((s8 p hs).2=0\/(s8 p hs).2=2)/\((s8 p hs).2=0->Fr.Sh (s8 p hs).1/\Fr.rZ (s8 p hs).1 who=((uV p hs who).1,0)):=by
 obtain⟨k1,k2,k3⟩:=adt h;have hx:=(JP k1).1;have OB:=TO (who:=[]) k1 k2 rfl;have vo:=TO (who:=who) k1 k2 k3;have hc:s8 p hs=pG (ig 0 hs p.change):=by rw[s8,OB,if_neg (by simp)]
 have:=afL k3 (O2 (v:=0) k2 hx);rw[adg k2 hx]at this;rw[hc,vo];exact this
theorem afM{p hs}(hp:lO p)(h:HG p hs=true):GY p hs:=by
 simp only[HG,Bool.and_eq_true,decide_eq_true_eq,List.all_eq_true]at h;obtain⟨⟨h1,h2,h3,h4⟩,h5,h6,h7⟩:=h;refine⟨hp,fun x hx=>?_,by omega,by omega,fun l hl=>by have:=h7 l hl;omega⟩;rcases List.mem_append.1 hx with hx|hx
 .grind
 grind
end Go.Proofs.YtmfjlankeocaoaaGreatDoor
namespace Go.Proofs.YtmfjlankeocaoaaGreatDoor.Sx
open Go Go.Proofs Go.aS
theorem adx(Γ)(gH:Γ 0=some qD)(p kind value hs h)(F:GY p hs):
  AC Γ 16 [iI p,.int .i64 kind,.int .i64 value,.sl (fY hs) .free] h (.tuple [Fr.bM (kZ p kind value hs).1,.bool (decide ((kZ p kind value hs).2=0)),.bool (decide ((kZ p kind value hs).2=0\/(kZ p kind value hs).2=2))]):=by
 have c1:=fun h=>aqy Γ gH p kind value hs h F;obtain⟨⟨g,e⟩,hg⟩:∃x,kZ p kind value hs=x:=⟨_,rfl⟩;rw[hg]at c1|-;obtain⟨a,n,l,rfl⟩:∃a n l,g= .mk a n l:=by cases g with|mk a n l=>exact⟨a,n,l,rfl⟩
 rw[Fr.iu]at c1|-;refine az.ji ?_;rw[jj]at c1|-;refine cY [.cell 8 49,.tmp 9,.tmp 10] Tryz.func16 ?_;refine bL (c1 _) ?_;by_cases h0:e=0
 .subst h0;exact dL
 .simp(disch:=omega) only[go_sem,seval,h0,false_or]
theorem ady:∀x:Ex,mQ (eU x)=mQ x
 | .mk k n no s l=>by
  have:∀y∈l,mQ (eU y)=mQ y:=fun y hy=>ady y;rw[eU,mQ,mQ,CJ];congr 1;induction l with
  |nil=>rfl
  |cons y r ih=>rw[List.map_cons,oR,oR,this y (by simp),ih fun z hz=>this z (by simp[hz])]
theorem aqA(y):iY (eU y)=iY y:=by rw[iY,iY,ES,Ux,GV,Uw,List.length_map]
theorem aqB(x):lN (eU x)=lN x:=by rw[lN,lN,KQ,ady]
theorem UK(p):exprs (km p)=(exprs p).map eU:=by simp[exprs,km,mD,List.map_map,Function.comp_def]
theorem adz:∀(ks:List Tx) (rs:List Rl),l9 ks (rs.map mD)=l9 ks rs
 |[],rs=>by cases rs<;>rfl
 |k::ks,[]=>rfl
 |k::ks,r::rs=>by rw[List.map_cons,l9,l9,adz ks rs];rfl
theorem aqC{p}(h:dp p=0):fi (km p)=0:=by
 obtain⟨h1,h2,h3,-,-⟩:=xN h;have s1:nM (km p)=true:=by
  rw[<-h1,nM,nM,UK,List.all_map];have:(fun x=>!lN x)∘eU=fun x=>!lN x:=by funext x;simp[aqB]
  rw[this];show(decide (p.bf.length<=32/\p.kinds.length<=16/\(p.rules.map mD).length<=16)&&_)=_;rw[List.length_map]
 have s2:ot (km p)=true:=by
  rw[<-h2,ot,ot,UK,List.all_map];have:de (kh p.bf)∘eU=de (kh p.bf):=by funext x;exact GW (fun y=>by rw[kh,kh,lg,lg,ES,GV]) x
  show(_&&(exprs p).all (de (kh p.bf)∘eU))=_;rw[this];rfl
 have fu:∀u x,de (iC u) (eU x)=de (iC u) x:=fun u x=>GW (fun y=>by rw[iC,iC,aqA,ES]) x;have s3:ou (km p)=true:=by
  rw[<-h3,ou,ou];show(decide (0<p.kinds.length/\(p.rules.map mD).length=p.kinds.length/\1<=p.mode/\p.mode<=4)&&l9 p.kinds (p.rules.map mD)&&(p.rules.map mD).all (fun r=>de (iC true) r.x)&&de (iC false) (eU p.change))=_;rw[List.length_map,adz,List.all_map,fu];have:(fun r:Rl=>de (iC true) r.x)∘mD=fun r=>de (iC true) r.x:=by funext r;exact fu true r.x
  rw[this]
 simp[fi,s1,s2,s3]
end Go.Proofs.YtmfjlankeocaoaaGreatDoor.Sx
namespace Go.Proofs.YtmfjlankeocaoaaGreatDoor.Fr.L
open lV Go Go.Proofs
abbrev KK:=Fin G5
instance:NeZero G5:=⟨by decide⟩
def kI(n:Int):KK:=⟨(n%1073741789).toNat,by grind⟩
theorem Bf(n):((kI n).val:Int)=n%1073741789:=by have h1:=Int.emod_nonneg n (b:=1073741789) (by decide);show(((n%1073741789).toNat:Nat):Int)=_;omega
theorem UT{x y:KK}(h:(x.val:Int)=y.val):x=y:=Fin.ext (by omega)
theorem adR(a b):kI (a+b)=kI a+kI b:=by apply UT;rw[Bf,Fin.val_add,Int.natCast_emod,Int.natCast_add,Bf,Bf];exact Int.add_emod a b _
theorem aqX(a b):kI (a*b)=kI a*kI b:=by apply UT;rw[Bf,Fin.val_mul,Int.natCast_emod,Int.natCast_mul,Bf,Bf];exact Int.mul_emod a b _
theorem CV(a):kI (a%1073741789)=kI a:=by apply UT;rw[Bf,Bf,Int.emod_emod]
theorem UU:kI 0=0:=rfl
theorem Pc:kI 1=1:=rfl
theorem adS(a):kI (-a)=-(kI a):=by have h:=adR a (-a);rw[Int.add_right_neg,UU]at h;grobner
theorem adT{a b}(ha:0<=a/\a<1073741789)(hb:0<=b/\b<1073741789)(h:kI a=kI b):a=b:=by have:=congrArg (fun x:KK=>(x.val:Int)) h;simp only[Bf]at this;omega
theorem Pd{a}(ha:0<=a/\a<1073741789):kI a=0<->a=0:=⟨fun h=>adT ha (by omega) (h.trans UU.symm),fun h=>by rw[h];rfl⟩
def jS(a b:Int):Int:=(a%1073741789)*(b%1073741789)%1073741789
theorem G7(a b):kI (jS a b)=kI a*kI b:=by rw[jS,CV,aqX,CV,CV]
theorem Bh(a b):0<=jS a b/\jS a b<1073741789:=⟨Int.emod_nonneg _ (by decide),Int.emod_lt_of_pos _ (by decide)⟩
def mE(x:Int):Nat->Int->List Int
 |0,_=>[]
 |m+1,acc=>jS acc x::mE x m (jS acc x)
theorem G8(x:Int):∀(m:Nat) (acc:Int),(mE x m acc).length=m
 |0,_=>rfl
 |m+1,acc=>by rw[mE,List.length_cons,G8]
theorem UW(x:Int):∀(m:Nat) (acc:Int),∀y∈mE x m acc,0<=y/\y<1073741789
 |0,_,y,h=>by cases h
 |m+1,acc,y,h=>by
  rw[mE]at h;rcases List.mem_cons.1 h with rfl|h
  .exact Bh _ _
  .exact UW x m _ y h
def dl(r:Nat->KK):Nat->List Int->KK
 |_,[]=>0
 |i,a::v=>kI a*r i+dl r (i+1) v
theorem EY(r:Nat->KK):∀(v u:List Int) (i:Nat),dl r i (v++u)=dl r i v+dl r (i+v.length) u
 |[],u,i=>by show dl r i u=0+dl r (i+0) u;rw[Nat.add_zero];grobner
 |a::v,u,i=>by rw[List.cons_append,dl,EY r v u (i+1),dl,List.length_cons,show i+1+v.length=i+(v.length+1)from by omega];grobner
theorem K8(r:Nat->KK):∀(m i:Nat),dl r i (List.replicate m 0)=0
 |0,_=>rfl
 |m+1,i=>by rw[List.replicate_succ,dl,K8 r m,UU];grobner
theorem Pe{r r':Nat->KK}:∀(v:List Int) (i:Nat),(∀j,i<=j->j<i+v.length->r' j=r j)->dl r' i v=dl r i v
 |[],_,_=>rfl
 |a::v,i,h=>by rw[dl,dl,h i (Nat.le_refl _) (by simp),Pe v (i+1) fun j h1 h2=>h j (by omega) (by simp;omega)]
def vw(r:Nat->KK):Nat->Nat->List KK
 |_,0=>[]
 |i,m+1=>r i::vw r (i+1) m
theorem adU(r:Nat->KK):∀(m i:Nat),(vw r i m).length=m
 |0,_=>rfl
 |m+1,i=>by rw[vw,List.length_cons,adU]
theorem adV(r:Nat->KK)(x:Int):∀(m:Nat) (acc:Int) (i:Nat),dl r i (mE x m acc)=kI acc*(kI x*ev (kI x) (vw r i m))
 |0,acc,i=>by simp only[mE,dl,vw,ev];grobner
 |m+1,acc,i=>by rw[mE,dl,adV r x m,G7,vw,ev];grobner
theorem adW(r base x m):dl r 0 (base++mE x m 1)=ev (kI x) (dl r 0 base::vw r base.length m):=by rw[EY,adV,Pc,ev,Nat.zero_add];grobner
def G9(r:Nat->KK)(i:Nat)(c:List KK):Nat->KK:=fun j=>if i<=j/\j<i+c.length then c.getD (j-i) 0 else r j
theorem adX(r i c){j}(h:j<i):G9 r i c j=r j:=by rw[G9,if_neg (by omega)]
theorem adY(r:Nat->KK):∀(m i k:Nat),(vw r i m)[k]? =if k<m then some (r (i+k))else none
 |0,_,_=>by simp[vw]
 |m+1,i,0=>by simp[vw]
 |m+1,i,k+1=>by rw[vw,List.getElem?_cons_succ,adY r m (i+1) k,show i+1+k=i+(k+1)from by omega];grind
theorem aqY(r i c):vw (G9 r i c) i c.length=c:=by
 apply List.ext_getElem?;intro k;rw[adY];split
 .rename_i h;rw[G9,if_pos (by omega),show i+k-i=k from by omega,List.getD_eq_getElem?_getD,List.getElem?_eq_getElem h];rfl
 grind
structure th where
 rows:List (List Int×Int)
 cN:Nat
mutual
def mG:Gt->List Int->th->Bool×th
 | .mk p n l,v,s=>if 0<=p then(decide (s.rows.length+1<=64),⟨s.rows++[(v,p)],s.cN⟩)else if 64<s.cN+(n-1).toNat then(false,⟨s.rows,s.cN+(n-1).toNat⟩)else q_ l 0 n (v++List.replicate (s.cN-v.length) 0) ⟨s.rows,s.cN+(n-1).toNat⟩
def q_:List Gt->Nat->Int->List Int->th->Bool×th
 |[],_,_,_,s=>(true,s)
 |x::r,i,n,base,s=>if(mG x (base++mE ((i:Int)+1) (n-1).toNat 1) s).1 then q_ r (i+1) n base (mG x (base++mE ((i:Int)+1) (n-1).toNat 1) s).2 else(false,(mG x (base++mE ((i:Int)+1) (n-1).toNat 1) s).2)
end
inductive CW:Gt->Prop
 |mk {p n:Int} {l:List Gt} (h1:l.length<=1000) (h2:∀x∈l,CW x):CW (.mk p n l)
structure UX(W:Int->Bool)(h:Bool)(v:List Int)(s s':th)(new:List (List Int×Int)):Prop where
 rows:s'.rows=s.rows++new
 le:s.cN<=s'.cN
 Pf:s.cN<=64->s'.cN<=64
 EZ:∀x∈new,x.1.length<=s'.cN
 ok:(∀y∈v,0<=y/\y<1073741789)->∀x∈new,x.1.length<=s'.cN/\(∀y∈x.1,0<=y/\y<1073741789)/\0<=x.2/\x.2<64
 ne:v≠[]->∀x∈new,x.1≠[]
 sat:h=true->∀r,(∀x∈new,W x.2=true->dl r 0 x.1=0)->dl r 0 v=0
 K9:∀r,(h=true->dl r 0 v=0)->∃r',(∀i<s.cN,r' i=r i)/\∀x∈new,W x.2=true->dl r' 0 x.1=0
structure aqZ(W:Int->Bool)(l:List Gt)(i:Nat)(n:Int)(base:List Int)(s s':th)(new:List (List Int×Int)):Prop where
 rows:s'.rows=s.rows++new
 le:s.cN<=s'.cN
 Pf:s.cN<=64->s'.cN<=64
 EZ:∀x∈new,x.1.length<=s'.cN
 ok:(∀y∈base,0<=y/\y<1073741789)->∀x∈new,x.1.length<=s'.cN/\(∀y∈x.1,0<=y/\y<1073741789)/\0<=x.2/\x.2<64
 ne:base≠[]->∀x∈new,x.1≠[]
 sat:∀r,(∀x∈new,W x.2=true->dl r 0 x.1=0)->∀(j:Nat) (x:Gt),l[j]? =some x->ie W x=true->dl r 0 (base++mE (((i+j:Nat):Int)+1) (n-1).toNat 1)=0
 K9:∀r,(∀(j:Nat) (x:Gt),l[j]? =some x->ie W x=true->dl r 0 (base++mE (((i+j:Nat):Int)+1) (n-1).toNat 1)=0)->∃r',(∀i<s.cN,r' i=r i)/\∀x∈new,W x.2=true->dl r' 0 x.1=0
def sf(W:Int->Bool):List Gt->Nat->List KK
 |[],_=>[]
 |x::r,i=>if ie W x then kI ((i:Int)+1)::sf W r (i+1)else sf W r (i+1)
theorem K_{W:Int->Bool}{y:KK}:∀{l:List Gt} {i:Nat},y∈sf W l i->∃j x,l[j]? =some x/\ie W x=true/\y=kI (((i+j:Nat):Int)+1)
 |[],_,h=>by cases h
 |x::r,i,h=>by
  rw[sf]at h;split at h
  .rename_i hx;rcases List.mem_cons.1 h with rfl|h
   .exact⟨0,x,List.getElem?_cons_zero,hx,by rw[Nat.add_zero]⟩
   .obtain⟨j,z,h1,h2,h3⟩:=K_ h;exact⟨j+1,z,h1,h2,by rw[h3];congr 2;omega⟩
  .obtain⟨j,z,h1,h2,h3⟩:=K_ h;exact⟨j+1,z,h1,h2,by rw[h3];congr 2;omega⟩
theorem UY{W:Int->Bool}:∀{l:List Gt} {i:Nat},i+l.length<=1000000->(sf W l i).Nodup
 |[],_,_=> .nil
 |x::r,i,h=>by
  simp at h;rw[sf];split
  .refine List.nodup_cons.2 ⟨fun hm=>?_,UY (by omega)⟩;obtain⟨j,z,h1,h2,h3⟩:=K_ hm;have hj:=(List.getElem?_eq_some_iff.1 h1).1;have:=adT (by omega) (by omega) h3;omega
  .exact UY (by omega)
theorem Pg{W:Int->Bool}:∀{l:List Gt} {i:Nat} {n:Int},1<=n->(nw W l n=true<->n<=((sf W l i).length:Int))
 |[],_,n,h=>by simp[nw,sf];omega
 |x::r,i,n,h=>by
  rw[nw,sf];split
  .split
   .grind
   .rw[Pg (i:=i+1) (by omega)];simp only[List.length_cons];omega
  .exact Pg h
mutual
theorem UZ(W:Int->Bool):∀(g:Gt) (v:List Int) (s s':th),iM g=true->CW g->v.length<=s.cN->mG g v s=(true,s')->∃new,UX W (ie W g) v s s' new
 | .mk p n l,v,s,s',hr,hw,hv,h=>by
  rw[mG]at h;rw[iM]at hr;split at h
  .rename_i hp;rw[if_pos hp]at hr;simp only[Bool.and_eq_true,decide_eq_true_eq]at hr;obtain⟨_,rfl⟩:=Prod.mk.inj h;rw[ie,if_pos hp];refine⟨[(v,p)],rfl,Nat.le_refl _,id,fun x hx=>by grind,fun h x hx=>?_,fun h x hx=>?_,fun h r hn=>?_,fun r hr=>⟨r,fun _ _=>rfl,fun x hx hW=>?_⟩⟩
   .grind
   .grind
   .exact hn (v,p) (by simp) h
   grind
  .rename_i hp;rw[if_neg hp]at hr;simp only[Bool.and_eq_true,decide_eq_true_eq]at hr;obtain⟨⟨⟨_,L3⟩,J4⟩,ik⟩:=hr;split at h
   .cases h
   .rename_i ZR;obtain⟨hl,mT⟩:l.length<=1000/\∀x∈l,CW x:=by cases hw;grind
    have qz:(v++List.replicate (s.cN-v.length) 0).length=s.cN:=by rw[List.length_append,List.length_replicate];omega
    obtain⟨new,H⟩:=adZ W l 0 n (v++List.replicate (s.cN-v.length) 0) ⟨s.rows,s.cN+(n-1).toNat⟩ s' ik mT (by rw[qz];exact Nat.le_refl _) h;have hbv:∀r,dl r 0 (v++List.replicate (s.cN-v.length) 0)=dl r 0 v:=fun r=>by rw[EY,K8];grobner
    rw[ie,if_neg hp];have hle:=H.le;simp only at hle;refine⟨new,H.rows,by omega,fun h0=>H.Pf (by simp only;omega),H.EZ,fun hy=>H.ok fun y hy'=>?_,fun cV=>H.ne fun e=>cV (List.append_eq_nil_iff.1 e).1,fun hc r hr=>?_,fun r hr=>?_⟩
    .grind
    .have hlen:=(Pg (W:=W) (l:=l) (i:=0) (by omega)).1 hc;have hz:=adH UM (dl r 0 (v++List.replicate (s.cN-v.length) 0)::vw r s.cN (n-1).toNat) (sf W l 0) (UY (by omega)) (by rw[List.length_cons,adU];omega) fun y hy=>by obtain⟨j,x,h1,h2,h3⟩:=K_ hy;have:=H.sat r hr j x h1 h2;rw[adW,qz]at this;rw[h3];exact this
     rw[ev,hbv]at hz;grind
    .have iX:∀x∈sf W l 0,x≠0:=fun x hx e=>by obtain⟨j,z,h1,h2,h3⟩:=K_ hx;have hj:=(List.getElem?_eq_some_iff.1 h1).1;rw[e]at h3;have:=(Pd (by omega)).1 h3.symm;omega
     have hc:∃c:List KK,c.length=(n-1).toNat/\∀x∈sf W l 0,ev x (dl r 0 v::c)=0:=by
      cases Ph:nw W l n with
      |true=>
       refine⟨List.replicate (n-1).toNat 0,List.length_replicate,fun x _=>?_⟩;have e0:=O9 x [dl r 0 v] (n-1).toNat;rw[List.singleton_append]at e0;rw[e0,hr Ph,ev,ev];grobner
      |false=>
       have:¬n<=((sf W l 0).length:Int):=fun e=>by rw[(Pg (by omega)).2 e]at Ph;cases Ph
       exact aqH UM (dl r 0 v) (sf W l 0) (n-1).toNat iX (by omega)
     obtain⟨c,kz,FW⟩:=hc;obtain⟨r',k1,k2⟩:=H.K9 (G9 r s.cN c) fun j x h1 h2=>by
      have e1:dl (G9 r s.cN c) 0 (v++List.replicate (s.cN-v.length) 0)=dl r 0 v:=by rw[EY,K8,Pe v 0 fun j _ hj=>adX r s.cN c (by omega)];grobner
      have e2:=aqY r s.cN c;rw[kz]at e2;rw[adW,qz,e1,e2];refine FW _ ?_;have mem:∀(l:List Gt) (i j:Nat),l[j]? =some x->kI (((i+j:Nat):Int)+1)∈sf W l i:=by
       intro l;induction l with
       |nil=>intro i j e;simp at e
       |cons z r ih=>
        intro i j e;rw[sf];grind
      exact mem l 0 j h1
     exact⟨r',fun i hi=>(k1 i (by simp only;omega)).trans (adX r s.cN c hi),k2⟩
theorem adZ(W:Int->Bool):∀(l:List Gt) (i:Nat) (n:Int) (base:List Int) (s s':th),qM l=true->(∀x∈l,CW x)->base.length+(n-1).toNat<=s.cN->q_ l i n base s=(true,s')->∃new,aqZ W l i n base s s' new
 |[],i,n,base,s,s',_,_,_,h=>by rw[q_]at h;cases h;exact⟨[],(List.append_nil _).symm,Nat.le_refl _,id,fun x hx=>(by cases hx),fun _ x hx=>(by cases hx),fun _ x hx=>(by cases hx),fun r _ j x h=>by simp at h,fun r _=>⟨r,fun _ _=>rfl,fun x hx=>(by cases hx)⟩⟩
 |x::l,i,n,base,s,s',hr,hw,hb,h=>by
  rw[q_]at h;rw[qM,Bool.and_eq_true]at hr;have mT:(base++mE ((i:Int)+1) (n-1).toNat 1).length<=s.cN:=by rw[List.length_append,G8];exact hb
  split at h
  .rename_i hx;obtain⟨s1,La⟩:∃s1,s1=(mG x (base++mE ((i:Int)+1) (n-1).toNat 1) s).2:=⟨_,rfl⟩;have LY:mG x (base++mE ((i:Int)+1) (n-1).toNat 1) s=(true,s1):=by rw[La,<-hx]
   rw[<-La]at h;obtain⟨aq1,H1⟩:=UZ W x _ s s1 hr.1 (hw x (by simp)) mT LY;have hle:=H1.le;obtain⟨aq2,H2⟩:=adZ W l (i+1) n base s1 s' hr.2 (fun y hy=>hw y (by simp[hy])) (by omega) h;have gM:=H2.le;refine⟨aq1++aq2,by rw[H2.rows,H1.rows,List.append_assoc],by omega,fun h0=>H2.Pf (H1.Pf h0),fun z hz=>(List.mem_append.1 hz).elim (fun hz=>Nat.le_trans (H1.EZ z hz) gM) (H2.EZ z),fun hy z hz=>?_,fun cV z hz=>?_,fun r hr j y hj hh=>?_,fun r hr=>?_⟩
   .rcases List.mem_append.1 hz with hz|hz
    .obtain⟨a,b,c,d⟩:=H1.ok (fun y hy'=>(List.mem_append.1 hy').elim (hy y) (UW _ _ _ y)) z hz;exact⟨by omega,b,c,d⟩
    .exact H2.ok hy z hz
   .rcases List.mem_append.1 hz with hz|hz
    .exact H1.ne (fun e=>cV (List.append_eq_nil_iff.1 e).1) z hz
    .exact H2.ne cV z hz
   .cases j with
    |zero=>
     simp at hj;subst hj;exact H1.sat hh r fun z hz=>hr z (List.mem_append_left _ hz)
    |succ j=>
     rw[List.getElem?_cons_succ]at hj;have:=H2.sat r (fun z hz=>hr z (List.mem_append_right _ hz)) j y hj hh;grind
   .obtain⟨r1,a1,a2⟩:=H1.K9 r fun hh=>hr 0 x rfl hh;obtain⟨r2,b1,b2⟩:=H2.K9 r1 fun j y hj hh=>by have:=hr (j+1) y (by grind) hh;rw[show i+(j+1)=i+1+j from by omega]at this;rw[Pe _ 0 fun k _ hk=>a1 k (by rw[List.length_append,G8]at hk;omega)];exact this
    refine⟨r2,fun k hk=>(b1 k (by omega)).trans (a1 k hk),fun z hz hW=>?_⟩;rcases List.mem_append.1 hz with hz|hz
    .have Il:=(H1.EZ z hz);rw[Pe _ 0 fun k _ hk=>b1 k (by omega)];exact a2 z hz hW
    .exact b2 z hz hW
  .cases h
end
end Go.Proofs.YtmfjlankeocaoaaGreatDoor.Fr.L
namespace Go.aS
open Go Go.RowKit
theorem vi{P}{b:Frame}{a k cs w c}:step P (lone (b.atR a (.code (.scope c)::k)) cs w)= .next (lone (b.atR a (.code c:: .inScope c::k)) cs w):=
 step_lone_go (by simp[stepG,stepG.exec,Frame.atR])
theorem T6{P}{b:Frame}{a k cs w c}:step P (lone (b.atR a (.inScope c::k)) cs w)= .next (lone (b.atR a k) cs w):=
 step_lone_go (by simp[stepG,stepG.exec,Frame.atR])
def aq3(Q:Exit->Act->World->Prop):Exit->Act->World->Prop
 | .goto _,_,_=>False
 |e,a,w=>Q e a w
theorem T7{F n P Q a w c}(h:c.wpIn F n P (aq3 Q) a w):(Code.scope c).wpIn F n P Q a w:=by
 intro b k cs nn hb hr;have h0:(lone (b.atR a (.code (.scope c)::k)) cs w).fenced P F:=fenced_calm hb hr rfl;obtain⟨e,pR,pS,hq,nH⟩:=h b (.inScope c::k) cs nn hb hr;cases e with
 |normal=>exact⟨.normal,pR,pS,hq,.head h0 vi (StepsIn.trans nH (.one (fenced_calm hb hr rfl) T6))⟩
 |exit id=>
  have hx:exitTo id (.inScope c::k)=exitTo id k:=by simp[exitTo]
  exact⟨_,pR,pS,hq,fun k' hk=> .head h0 vi (nH.1 k' (by rw[hx];exact hk)),
   fun n9 hk=>let⟨k₁,h1,h2⟩:=nH.2 n9 (by rw[hx];exact hk);⟨k₁,h1,.head h0 vi h2⟩⟩
 |goto l=>exact hq.elim
 |ret=>exact⟨_,pR,pS,hq,.of_steps (.one h0 vi) nH⟩
 |panic ch=>exact⟨_,pR,pS,hq,.of_steps (.one h0 vi) nH⟩
 |outgrown=>exact⟨_,pR,pS,hq,.of_steps (.one h0 vi) nH⟩
section
variable {P:Program} {Γ:GG} {N:Nat} {σ:Tm} {h:AH} {Q:Exit->Tm->AH->Prop}
def ad1(Q:Exit->Tm->AH->Prop):Exit->Tm->AH->Prop
 | .goto _,_,_=>False
 |e,σ,h=>Q e σ h
@[go_sem] theorem aCw:ad1 Q .ret σ h=Q .ret σ h:=(rfl)
theorem ab7{c}(H:bw P Γ N c (ad1 Q) σ h):bw P Γ N (.scope c) Q σ h:=fun r G w a hr hI ht=>by
 refine T7 (wpIn_mono (H r G w a hr hI ht) fun e a' w' hp=>?_);obtain⟨G',σ',h',Ds,h1,h2,h3,h4,h5,h6,h7⟩:=hp;cases e with
 |goto l=>exact h7.elim
 |_=>exact⟨G',σ',h',Ds,h1,h2,h3,h4,h5,h6,h7⟩
end
end Go.aS
namespace Go.Proofs.YtmfjlankeocaoaaGreatDoor.Fr.L
open lV Go Go.Proofs Go.aS
theorem cc(l):(encI l).length=l.length:=by simp[encI]
theorem aq4(n:Int):(if Int.tmod n 1073741789<0 then Int.tmod n 1073741789+1073741789 else Int.tmod n 1073741789)=n%1073741789:=by grind
theorem Lb(Γ n h)(hn:-9223372036854775808<=n/\n<=9223372036854775807):AC Γ 175 [.int .i64 n] h (.int .i64 (n%1073741789)):=by
 refine az.drop ?_;have e:=aq4 n;have h1:=Int.emod_nonneg n (b:=1073741789) (by decide);have h2:=Int.emod_lt_of_pos n (b:=1073741789) (by decide);refine cY [.tmp 2] Tryz.func175 ?_;refine aJ.intro (fun h3=>?_) (fun h3=>?_)
 .rw[if_pos h3]at e;refine aU ?_;rw[e]
 .rw[if_neg h3]at e;refine aU ?_;rw[e]
theorem aq5{a b:Int}(ha:0<=a/\a<1073741789)(hb:0<=b/\b<1073741789):0<=a*b/\a*b<=1152921439071232521:=by refine⟨Int.mul_nonneg ha.1 hb.1,?_⟩;exact Int.le_trans (Int.mul_le_mul (show a<=1073741788 by omega) (show b<=1073741788 by omega) hb.1 (by decide)) (by decide)
theorem CX(Γ a b h)(ha:-9223372036854775808<=a/\a<=9223372036854775807)(hb:-9223372036854775808<=b/\b<=9223372036854775807):AC Γ 165 [.int .i64 a,.int .i64 b] h (.int .i64 (jS a b)):=by refine az.drop ?_;have a1:=Int.emod_nonneg a (b:=1073741789) (by decide);have a2:=Int.emod_lt_of_pos a (b:=1073741789) (by decide);have b1:=Int.emod_nonneg b (b:=1073741789) (by decide);have b2:=Int.emod_lt_of_pos b (b:=1073741789) (by decide);have hm:=aq5 ⟨a1,a2⟩ ⟨b1,b2⟩;have hq:jS a b=(a%1073741789)*(b%1073741789)%1073741789:=rfl;refine cY [.tmp 4] Tryz.func165 ?_;refine bL (Lb Γ a _ ha) ?_;refine bL (Lb Γ b _ hb) ?_;grind
def ti(a b:Int):Int:=(a%1073741789+b%1073741789)%1073741789
theorem ad2(a b):kI (ti a b)=kI a+kI b:=by rw[ti,CV,adR,CV,CV]
theorem ad3(a b):0<=ti a b/\ti a b<1073741789:=⟨Int.emod_nonneg _ (by decide),Int.emod_lt_of_pos _ (by decide)⟩
def ya(left:Nat)(x sq:Int):Int:=
 if h:left=0 then x else ya (left/2) (if left%2=1 then jS x sq else x) (jS sq sq)
 termination_by left
 decreasing_by omega
theorem aq6(left x sq):kI (ya left x sq)=kI x*pw (kI sq) left:=by
 induction left using Nat.strongRecOn generalizing x sq with
 |_ left ih=>
  rw[ya];split
  .rename_i h;subst h;rw[pw];grobner
  .rename_i h;rw[ih (left/2) (by omega),G7,adB];split
   .rename_i h2;rw[G7];have:left=2*(left/2)+1:=by omega
    rw[this,show(2*(left/2)+1)/2=left/2 from by omega,pw];grobner
   grind
theorem U0(left x sq)(hx:0<=x/\x<1073741789):0<=ya left x sq/\ya left x sq<1073741789:=by
 induction left using Nat.strongRecOn generalizing x sq with
 |_ left ih=>
  rw[ya];split
  .exact hx
  .refine ih (left/2) (by omega) _ _ ?_;split
   .exact Bh _ _
   .exact hx
def yb(n:Int):Int:=ya 1073741787 1 n
theorem aq7{n}(h:¬n%1073741789=0):kI (yb n)*kI n=1:=by
 have hn:kI n≠0:=fun e=>h ((Pd ⟨Int.emod_nonneg _ (by decide),Int.emod_lt_of_pos _ (by decide)⟩).1 ((CV n).trans e));have hf:=adG UM hn;rw[yb,aq6,Pc];have:G5-1=1073741787+1:=by decide
 rw[this,pw]at hf;grind
def E0(l:List Int):Int:=l.foldl (fun x n=>(x+n%1073741789)%1073741789) 0
theorem aq8(l:List Int):∀x,0<=x/\x<1073741789->0<=l.foldl (fun x n=>(x+n%1073741789)%1073741789) x/\l.foldl (fun x n=>(x+n%1073741789)%1073741789) x<1073741789:=by
 induction l with
 |nil=>exact fun _ h=>h
 |cons n r ih=>grind
theorem aq9(Γ l h)(hl:l.length<=1000)(hb:∀n∈l,-9223372036854775808<=n/\n<=9223372036854775807):AC Γ 225 [.sl (encI l) .free] h (.int .i64 (E0 l)):=by
 refine az.drop ?_;refine cS [.tmp 2] Tryz.func225 ?_;simp(disch:=omega) only[go_sem,seval,cc];refine d_ (β:=Unit) l [3,6,7,8] (fun ae _=>[(3,.int .i64 (E0 ae)),(6,.sl (encI l) .free),(7,.int .i64 l.length),(8,.int .i64 ae.length)]) (fun _=>h) (fun _ _ _=>True) () ?_ rfl trivial ?_ ?_
 .simp(disch:=omega) only[go_sem,seval,List.length_nil];rfl
 .rintro ae x r _ hd-;have hlen:l.length=ae.length+1+r.length:=by rw[hd];simp;omega
  have e1:(encI l)[ae.length]? =some (.int .i64 x):=by rw[hd];simp[encI]
  have hr:=aq8 ae 0 (by decide);have hs:E0 (ae++[x])=(E0 ae+x%1073741789)%1073741789:=by simp[E0]
  have x1:=Int.emod_nonneg x (b:=1073741789) (by decide);have x2:=Int.emod_lt_of_pos x (b:=1073741789) (by decide);obtain⟨s,hsd⟩:∃s,s=E0 ae:=⟨_,rfl⟩;have n9:0<=s/\s<1073741789:=by rw[hsd];exact hr
  rw[<-hsd]at hs|-;simp(disch:=omega) only[go_sem,seval];refine aJ.pos (by omega) ?_;simp(disch:=omega) only[go_sem,seval,e1];refine bL (Lb Γ x _ (hb x (by rw[hd];simp))) ?_;rw[Int.tmod_eq_emod_of_nonneg (by omega),<-hs];refine cd () trivial ?_ rfl;simp(disch:=omega) only[go_sem,seval,List.length_append]
 .rintro _-;refine aU ?_;exact yT [3]
theorem aq_(a b):E0 [a,b]=ti a b:=by have a1:=Int.emod_nonneg a (b:=1073741789) (by decide);have a2:=Int.emod_lt_of_pos a (b:=1073741789) (by decide);show((0+a%1073741789)%1073741789+b%1073741789)%1073741789=ti a b;rw[Int.zero_add,Int.emod_emod];rfl
theorem ad5(Γ a b h)(ha:-9223372036854775808<=a/\a<=9223372036854775807)(hb:-9223372036854775808<=b/\b<=9223372036854775807):AC Γ 176 [.int .i64 a,.int .i64 b] h (.int .i64 (ti a b)):=by refine az.drop ?_;refine cY [.tmp 4] Tryz.func176 ?_;refine az.tP (az.cv (aq9 Γ [a,b] _ (by simp) (fun n hn=>by grind)) ?_) (by simp[eI,loose,encI]);rw[aq_];exact dL
theorem ad6(Γ n h)(hn:0<=n/\n<1073741789):AC Γ 177 [.int .i64 n] h (if n=0 then .tuple [.int .i64 0,.int .i64 90]else .tuple [.int .i64 (yb n),.int .i64 0]):=by
 have en:n%1073741789=n:=Int.emod_eq_of_lt hn.1 hn.2;refine az.drop ?_;refine cY [.tmp 2,.tmp 3] Tryz.func177 ?_;refine aS.ab7 (gO ?_);refine aU ?_;refine az.cv (Lb Γ n _ (by omega)) ?_;rw[en];refine aU ?_;refine aJ.intro (fun h1=>?_) (fun h1=>?_)<;>simp(disch:=omega) only[go_sem,seval]
 .rw[if_pos h1]
 rw[if_neg h1];refine vU (α:=Nat×Int×Int) [2,3,4,5] (fun s=>[(2,.int .i64 s.2.1),(3,.int .i64 0),(4,.int .i64 s.1),(5,.int .i64 s.2.2)]) (fun _=>h)
  (fun s=>s.1<=1073741787/\(0<=s.2.1/\s.2.1<1073741789)/\(0<=s.2.2/\s.2.2<1073741789)/\ya s.1 s.2.1 s.2.2=yb n) (fun s=>s.1) (1073741787,1,n) ?_ rfl ⟨Nat.le_refl _,by simp,hn,rfl⟩ Ty.mixed (by kernel_rfl) ?_
 .exact dL
 rintro⟨left,x,sq⟩ ⟨i1,i2,i3,i4⟩;simp only at i1 i2 i3 i4|-;refine aU ?_;have hdiv:Int.tdiv (left:Int) 2=((left/2:Nat):Int):=by rw[Int.tdiv_eq_ediv_of_nonneg (by omega)];omega
 have ara:Int.tmod (left:Int) 2=((left%2:Nat):Int):=by rw[Int.tmod_eq_emod_of_nonneg (by omega)];omega
 refine aJ.intro (fun h2=>?_) (fun h2=>?_)<;>simp(disch:=omega) only[go_sem,seval]
 .have h0:left=0:=by omega
  rw[h0,ya,dif_pos rfl]at i4;refine fE [2,3] ?_;rw[i4]
 rw[ara];have jk:ya (left/2) (if left%2=1 then jS x sq else x) (jS sq sq)=yb n:=by
  rw[<-i4];conv=>rhs;rw[ya]
  rw[dif_neg (by omega)]
 refine aJ.intro (fun h3=>?_) (fun h3=>?_)<;>simp(disch:=omega) only[go_sem,seval]
 .refine bL (CX Γ x sq _ (by omega) (by omega)) ?_;refine bL (CX Γ sq sq _ (by omega) (by omega)) ?_;rw[hdiv];rw[if_pos (by omega)]at jk;refine sJ (left/2,jS x sq,jS sq sq) (by simp only;omega) ⟨by simp only;omega,Bh _ _,Bh _ _,jk⟩ ?_ rfl;exact dL
 .refine bL (CX Γ sq sq _ (by omega) (by omega)) ?_;rw[hdiv];rw[if_neg (by omega)]at jk;refine sJ (left/2,x,jS sq sq) (by simp only;omega) ⟨by simp only;omega,i2,Bh _ _,jk⟩ ?_ rfl;exact dL
end Go.Proofs.YtmfjlankeocaoaaGreatDoor.Fr.L
namespace Go.Proofs.YtmfjlankeocaoaaGreatDoor.Fr
open Go Go.Proofs Go.aS
theorem atU{a b}(ha:Rt a)(hb:Rt b):
  (∃l,tq a b=(l,true,0)/\wH a b=([],false,0)/\Bt a b (jt a) (l.map fun(k:Nat)=>(k))=(true,0)/\permits a b/\l.length<=256)\/
  (∃s,tq a b=([],false,0)/\wH a b=(s,true,0)/\Bt a b (jt a) []=(false,0)/\fV (-1) s=true/\eZ b s=true/\eZ a s=false):=by
 have hm:=(afy ha hb).1;rcases afA ha hb with⟨l,h1,h2⟩|h1
 .refine .inl ⟨l,h1,?_,atx ha hb h2 (LB ha),(afB ha hb).1 (by rw[h1]),?_⟩
  .rcases afz ha hb with⟨s,k,-,-⟩|⟨k,-⟩
   .rw[h1,k]at hm;cases hm
   .exact k
  .have e:=VK (VB h2);rw[List.length_map]at e;rw[e];exact LB hb
 .rcases afz ha hb with⟨s,k,k1,k2⟩|⟨k,-⟩
  .refine .inr ⟨s,h1,k,?_,Bu hb.c k1,?_,k2⟩
   .have e:=VC ha hb (l:=jt a) (ins:=[]) (LB ha);cases hx:(Bt a b (jt a) []).1 with
    |false=>grind
    |true=>
     have:=(afB ha hb).2 (atw ha hb (LB ha) hx);rw[h1]at this;cases this
   .exact((zu (wx hb.c) s).1 k1).2.1
  .rw[h1,k]at hm;cases hm
end Go.Proofs.YtmfjlankeocaoaaGreatDoor.Fr
namespace Go.Proofs.YtmfjlankeocaoaaGreatDoor
open Go Go.Proofs Go.aS
theorem afW{g}(h:(pG g).2=0):Fr.dp (pG g).1=0:=by rw[pG]at h|-;grind
theorem VM{p kind value hs}(h:(kZ p kind value hs).2=0):Fr.dp (kZ p kind value hs).1=0:=by
 rw[kZ]at h|-;split
 .grind
 .rename_i k;rw[if_neg k]at h;exact afW h
theorem atV{p hs}(h:(s8 p hs).2=0):Fr.dp (s8 p hs).1=0:=by
 rw[s8]at h|-;split
 .grind
 .rename_i k;rw[if_neg k]at h;exact afW h
end Go.Proofs.YtmfjlankeocaoaaGreatDoor
namespace Go.Proofs.YtmfjlankeocaoaaGreatDoor.Fr.L
open lV Go Go.Proofs Go.aS
theorem ad7(ae r x):(encI (ae++x::r))[ae.length]? =some (.int .i64 x):=by simp[encI]
def bD(l:List (List Int)):List AV:=l.map fun r=> .sl (encI r) .free
theorem rL(l):eI (encI l)=encI l:=uL _ (fun _=>by rw[loose]) l
theorem jG(l):(bD l).length=l.length:=by simp[bD]
theorem G_(ae r x):(bD (ae++x::r))[ae.length]? =some (.sl (encI x) .free):=by simp[bD]
theorem xW{l}{k:Nat}{x}(h:l[k]? =some x):(bD l)[k]? =some (.sl (encI x) .free):=by rw[bD,List.getElem?_map,h];rfl
theorem xO{l}{k:Nat}{x}(h:l[k]? =some x):(encI l)[k]? =some (.int .i64 x):=by rw[encI,List.getElem?_map,h];rfl
def yc(d:Nat)(r:List Int):Prop:=r.length=d/\∀x∈r,0<=x/\x<1073741789
theorem Lc(Γ e h):az Tryz.prog Γ 220 [.bool true,.int .i64 e] h fun _ h'=>h'=h:=by refine(az.drop (R:=fun _=>True) ?_).mono fun _ _ h=>h.1;exact xB [] Tryz.func220
theorem U1(Γ x h)(hx:0<=x/\x<1073741789):AC Γ 264 [.int .i64 x] h (.bool false):=by refine az.drop ?_;refine cY [.tmp 2] Tryz.func264 ?_;refine bu (aJ.neg (by omega)) ?_;rw[decide_eq_false (by omega)]
theorem arb(Γ F l h)(hl:l.length<=1000)(hF:∀x∈l,∀h,AC Γ F [.int .i64 x] h (.bool false)):
  AC Γ 263 [.sl (encI l) .free,.func F [] []] h (.int .i64 (-1)):=by
 refine az.drop ?_;refine cS [.tmp 4] Tryz.func263 ?_;simp(disch:=omega) only[go_sem,seval,cc];refine d_ (β:=Unit) l [0,1,7,8] (fun ae _=>[(0,.sl (encI l) .free),(1,.func F [] []),(7,.int .i64 l.length),(8,.int .i64 ae.length)]) (fun _=>h) (fun _ _ _=>True) () ?_ rfl trivial ?_ ?_
 .simp(disch:=omega) only[go_sem,seval,List.length_nil]
 .rintro ae x r _ hd-;have hlen:l.length=ae.length+1+r.length:=by rw[hd];simp;omega
  have e1:(encI l)[ae.length]? =some (.int .i64 x):=by rw[hd];exact ad7 ae r x
  simp(disch:=omega) only[go_sem,seval];refine aJ.pos (by omega) ?_;simp(disch:=omega) only[go_sem,seval,e1];refine bL (hF x (by rw[hd];simp) _) ?_;refine cd () trivial ?_ rfl;simp(disch:=omega) only[go_sem,seval,List.length_append]
 .rintro _-;refine aU ?_;exact yT []
theorem ad8(Γ F l h)(hl:l.length<=1000)(hF:∀x∈l,∀h,AC Γ F [.int .i64 x] h (.bool false)):
  AC Γ 218 [.sl (encI l) .free,.func F [] []] h (.bool false):=by
 refine az.drop ?_;refine cY [.tmp 4] Tryz.func218 ?_;exact qx (arb Γ F l _ hl hF)
theorem ad9(Γ d rows h)(hd:d<=64)(hr:∀r∈rows,yc d r)(hl:rows.length<=64):
  az Tryz.prog Γ 221 [.sl (bD rows) .free] h fun _ h'=>h'=h:=by
 refine(az.drop (R:=fun _=>True) ?_).mono fun _ _ h=>h.1;refine cS [] Tryz.func221 ?_;simp(disch:=omega) only[go_sem,seval,jG];refine d_ (β:=Unit) rows [0,7,8,9] (fun ae _=>[(0,.sl (bD rows) .free),(7,.sl (bD rows) .free),(8,.int .i64 rows.length),(9,.int .i64 ae.length)]) (fun _=>h) (fun _ _ _=>True) () ?_ rfl trivial ?_ ?_
 .simp(disch:=omega) only[go_sem,seval,List.length_nil]
 .rintro ae x r _ he-;have hlen:rows.length=ae.length+1+r.length:=by rw[he];simp;omega
  have e1:(bD rows)[ae.length]? =some (.sl (encI x) .free):=by rw[he];exact G_ ae r x
  have hx:=hr x (by rw[he];simp);have iD:(x.length:Int)<=64:=by rw[hx.1];omega
  simp(disch:=omega) only[go_sem,seval];refine aJ.pos (by omega) ?_;simp(disch:=omega) only[go_sem,seval,e1,cc];rw[decide_eq_true iD];refine az.then (Lc Γ 2 _) ?_
  rintro _ _ rfl;refine aU ?_;refine cd () trivial ?_ rfl;simp(disch:=omega) only[go_sem,seval,List.length_append]
 .rintro _-;refine aU ?_;refine jL [0] ?_;simp(disch:=omega) only[go_sem,seval,jG];refine d_ (β:=Unit) rows [0,4,18,19,20] (fun ae _=>[(0,.sl (bD rows) .free),(4,.func 264 [] []),(18,.sl (bD rows) .free),(19,.int .i64 rows.length),(20,.int .i64 ae.length)]) (fun _=>h) (fun _ _ _=>True) () ?_ rfl trivial ?_ ?_
  .simp(disch:=omega) only[go_sem,seval,List.length_nil]
  .rintro ae x r _ he-;have hlen:rows.length=ae.length+1+r.length:=by rw[he];simp;omega
   have e1:(bD rows)[ae.length]? =some (.sl (encI x) .free):=by rw[he];exact G_ ae r x
   have hx:=hr x (by rw[he];simp);obtain⟨y,hy⟩:∃y,rows[0]? =some y:=⟨rows[0]'(by omega),List.getElem?_eq_getElem _⟩;have e0:=xW hy;have yo:=(hr y (List.mem_of_getElem? hy)).1;have iD:=hx.1;simp(disch:=omega) only[go_sem,seval];refine aJ.pos (by omega) ?_;simp(disch:=omega) only[go_sem,seval,e1,cc,e0];refine bu (aJ.pos (by omega)) ?_;refine bL (ad8 Γ _ x _ (by omega) fun z hz h=>U1 Γ z h (hx.2 z hz)) ?_;refine az.then (Lc Γ 130 _) ?_
   rintro _ _ rfl;refine aU ?_;refine cd () trivial ?_ rfl;simp(disch:=omega) only[go_sem,seval,List.length_append]
  .rintro _-;exact dL
theorem ad_(Γ d rows t h)(hd:d<=64)(hr:∀r∈rows,yc d r)(hl:rows.length<=64)(ht:yc d t):
  az Tryz.prog Γ 170 [.sl (bD rows) .free,.sl (encI t) .free] h fun _ h'=>h'=h:=by
 refine(az.drop (R:=fun _=>True) ?_).mono fun _ _ h=>h.1;have O5:(rows.length:Int)<=64:=by omega
 refine cS [] Tryz.func170 ?_;simp(disch:=omega) only[go_sem,seval,jG];rw[decide_eq_true O5];refine az.then (Lc Γ 2 _) ?_
 rintro _ _ rfl;refine aU ?_;refine az.then (ad9 Γ d rows _ hd hr hl) ?_
 rintro _ _ rfl;refine aU ?_;refine az.tP (bs:=[.sl (bD [t]) .free]) (az.then (ad9 Γ d [t] _ hd (fun r hr=>by grind) (by simp)) ?_) (by simp[eI,loose,bD,rL]);rintro _ _ rfl;simp(disch:=omega) only[go_sem,seval,jG];refine aJ.intro (fun h1=>?_) (fun h1=>?_)<;>simp(disch:=omega) only[go_sem,seval]
 .refine az.then (Lc Γ 130 _) ?_
  rintro _ _ rfl;exact dL
 .obtain⟨y,hy⟩:∃y,rows[0]? =some y:=⟨rows[0]'(by omega),List.getElem?_eq_getElem _⟩;have e0:=xW hy;have yo:=(hr y (List.mem_of_getElem? hy)).1;have oJ:=ht.1;simp(disch:=omega) only[go_sem,seval,e0,cc];rw[decide_eq_true (by omega)];refine az.then (Lc Γ 130 _) ?_
  rintro _ _ rfl;exact dL
structure TR where
 b:Nat
 c:Nat
 pad:List AV
def fG(W:Nat)(x:TR):AV:= .ms x.b 0 W x.c 1
structure nz(h:AH)(a:Nat)(R:List TR)(W:Nat)(t:List (List Int)):Prop where
 fM:h[a]? =some (.row (R.map (fG W)) 30)
 len:R.length=t.length
 wid:∀r∈t,r.length=W
 row:∀(k:Nat) (x:TR) (r:List Int),R[k]? =some x->t[k]? =some r->h[x.b]? =some (.row (encI r++x.pad) 3)
 nd:(R.map TR.b).Nodup
 na:∀x∈R,x.b≠a
theorem nz.more{h a R W t}(H:nz h a R W t)(l):nz (h++l) a R W t:=
 {H with
  fM:=eP l H.fM
  row:=fun k x r h1 h2=>eP l (H.row k x r h1 h2)}
theorem nz.keep{h h' a R W t}(H:nz h a R W t)(hk:∀(i) (ob),h[i]? =some ob->(i=a\/∃x∈R,i=x.b)->h'[i]? =some ob):nz h' a R W t:=
 {H with
  fM:=hk _ _ H.fM (.inl rfl)
  row:=fun k x r h1 h2=>hk _ _ (H.row k x r h1 h2) (.inr ⟨x,List.mem_of_getElem? h1,rfl⟩)}
theorem nz.put{h a R W t}(H:nz h a R W t){k x}(hx:R[k]? =some x){r}(hr:r.length=W):nz (h.set x.b (.row (encI r++x.pad) 3)) a R W (t.set k r):=by
 have U2:k<t.length:=by have:=(List.getElem?_eq_some_iff.1 hx).1;rw[H.len]at this;exact this
 have hb:x.b<h.length:=by have:=H.row k x t[k] hx (List.getElem?_eq_getElem U2);grind
 refine⟨?_,by rw[List.length_set];exact H.len,fun y hy=>?_,fun j y s h1 h2=>?_,H.nd,H.na⟩
 .rw[List.getElem?_set_ne (H.na x (List.mem_of_getElem? hx))];exact H.fM
 .rcases List.mem_or_eq_of_mem_set hy with hy|rfl
  .exact H.wid y hy
  .exact hr
 .by_cases e:k=j
  .grind
  .rw[List.getElem?_set_ne e]at h2;have cV:x.b≠y.b:=fun e2=>by
    have q1:(R.map TR.b)[k]? =some x.b:=by rw[List.getElem?_map,hx];rfl
    have q2:(R.map TR.b)[j]? =some x.b:=by rw[List.getElem?_map,h1,e2];rfl
    obtain⟨a1,a2⟩:=List.getElem?_eq_some_iff.1 q1;obtain⟨b1,b2⟩:=List.getElem?_eq_some_iff.1 q2;have hp:=List.pairwise_iff_getElem.1 H.nd;grind
   rw[List.getElem?_set_ne cV];exact H.row j y s h1 h2
theorem arc{R:List TR}{W k:Nat}{x}(hx:R[k]? =some x):(R.map (fG W))[k]? =some (.ms x.b 0 W x.c 1):=by rw[List.getElem?_map,hx];rfl
theorem drop_one{l:List AV}{k v}(h:l[k]? =some v):∃r,l.drop k=v::r:=⟨l.drop (k+1),by
 obtain⟨h1,h2⟩:=List.getElem?_eq_some_iff.1 h;rw[List.drop_eq_getElem_cons h1,h2]⟩
theorem aea(Γ b W c col h):az Tryz.prog Γ 222 [.ms b 0 W c 1,.int .i64 col] h fun v h'=>h'=h++[.row [.ms b 0 W c 1] 30,.row [.int .i64 col] 3]/\v= .func 265 [] [.ptr (some (h.length+1,0)),.ptr (some (h.length,0))]:=by exact xB [.tmp 4] Tryz.func222
theorem ard(Γ L a1 a2 b W c col)(x:List Int)(pad)(I:Nat->AH->Prop)(hW:W<=1000)(hc:col<=W)(hx:x.length=W)
  (H0:∀j h,I j h->h[a1]? =some (.row [.int .i64 col] 3)/\h[a2]? =some (.row [.ms b 0 W c 1] 30)/\∃r,h[b]? =some (.row (encI r++pad) 3)/\r.length=W/\∀k,col+j<=k->r[k]? =x[k]?)
  (HY:∀j v h,x[col+j]? =some v->I j h->rD Tryz.prog Γ L [.int .i64 ((col+j:Nat):Int),.int .i64 v] h fun w h'=>w= .bool true/\I (j+1) h')(h)(hI:I 0 h):
  az Tryz.prog Γ 265 [.yield L,.ptr (some (a1,0)),.ptr (some (a2,0))] h fun _ h'=>I (W-col) h':=by
 obtain⟨g1,g2,_⟩:=H0 0 h hI;refine cS [] Tryz.func265 ?_;simp(disch:=omega) only[go_sem,seval,g1];refine JQ (x.drop col) [0,1,2,4] (fun ae=>[(0,.yield L),(1,.ptr (some (a1,0))),(2,.ptr (some (a2,0))),(4,.int .i64 ((col+ae.length:Nat):Int))]) (fun ae _ h=>I ae.length h) rfl hI (fun ae v r h hd hi=>?_) (fun h hi=>?_)
 .obtain⟨-,g2,q,g3,hq,gq⟩:=H0 _ _ hi;have FG:x[col+ae.length]? =some v:=by rw[<-List.getElem?_drop,hd];simp
  have hqk:q[col+ae.length]? =some v:=by rw[gq _ (Nat.le_refl _),FG]
  have dN:col+ae.length<W:=by have:=(List.getElem?_eq_some_iff.1 FG).1;omega
  obtain⟨t,ht⟩:=drop_one (l:=encI q++pad) (k:=col+ae.length) (v:= .int .i64 v) (by rw[List.getElem?_append_left (by rw[cc];omega)];simp[encI,hqk]);refine eQ ?_;simp(disch:=omega) only[go_sem,seval,g2];refine bu (aJ.pos (by omega)) ?_;refine fR (jZ ?_);refine eQ ?_;simp(disch:=omega) only[go_sem,seval,g2,g3];refine⟨by omega,by omega,?_⟩;rw[show 0+((col:Int)+ae.length).toNat*1=col+ae.length by omega,ht];refine aU ?_;refine rD.mono (by simpa using HY _ _ _ FG hi) ?_;rintro _ h' ⟨rfl,qI⟩;refine aU ?_;refine gR ?_;refine gR ?_;refine⟨by rw[List.length_append];exact qI,?_⟩;simp[Int.add_assoc]
 .obtain⟨-,g2,q,g3,hq,gq⟩:=H0 _ _ hi;have hd:(x.drop col).length=W-col:=by rw[List.length_drop,hx]
  rw[hd]at hi|-;refine eQ ?_;simp(disch:=omega) only[go_sem,seval,g2];refine bu (aJ.neg (by omega)) ?_;exact hi
end Go.Proofs.YtmfjlankeocaoaaGreatDoor.Fr.L
namespace Go.Proofs.YtmfjlankeocaoaaGreatDoor.Fr.L
open Go Go.Proofs Go.aS
theorem aeb{Γ N σ Q h g ps assign body a1 a2 b W c col}{x:List Int}{pad}(R:Nat->AH)(hg:ev Γ σ g= .func 265 [] [.ptr (some (a1,0)),.ptr (some (a2,0))])
  (hW:W<=1000)(hc:col<=W)(hx:x.length=W)(r0:R 0=h)
  (h1:∀j,(R j).length=h.length/\(R j)[a1]? =some (.row [.int .i64 col] 3)/\(R j)[a2]? =some (.row [.ms b 0 W c 1] 30)/\∃r,(R j)[b]? =some (.row (encI r++pad) 3)/\r.length=W/\∀k,col+j<=k->r[k]? =x[k]?)
  (h2:∀(j i:Nat) (ob),(R j)[i]? =some ob->h[i]? =some ob\/∀st pe li,ob≠ .loop st pe li)
  (hb:∀li,li=⟨N,σ,ps,assign,body,none⟩->∀j v,x[col+j]? =some v->rD Tryz.prog Γ h.length [.int .i64 ((col+j:Nat):Int),.int .i64 v] (R j++[cO.loop .ready none li]) fun w h'=>w= .bool true/\h'=R (j+1)++[cO.loop .ready none li])
  (hQ:Q .normal σ (R (W-col)++[cO.dead])):bw Tryz.prog Γ N (.rangeFunc g ps assign body) Q σ h:=by
 refine SS hg fun li iZ=>?_;have lt:∀{j i ob},(R j)[i]? =some ob->∀l,(R j++l)[i]? =some ob:=fun {j i ob} e l=>eP l e;refine(ard Γ h.length a1 a2 b W c col x pad (fun j hx=>hx=R j++[cO.loop .ready none li]) hW hc hx (fun j h' e=>?_) (fun j v h' hv e=>?_) _ (by rw[r0])).mono ?_
 .subst e;obtain⟨-,q1,q2,r,q3,q4⟩:=h1 j;grind
 .subst e;exact hb li iZ j v hv
 .rintro _ h' rfl;have hl:=(h1 (W-col)).1;refine⟨.ready,none,by rw[<-hl];simp,fun i ob hi e=>?_,by simp,?_⟩
  .grind
  .rw[show(R (W-col)++[cO.loop .ready none li]).set h.length .dead=R (W-col)++[.dead]from by rw[<-hl];simp];exact hQ
def mh(lo hi:Nat)(f:Nat->Int->Int)(r:List Int):List Int:=r.mapIdx fun k x=>if lo<=k/\k<hi then f k x else x
theorem Ha(lo hi f r):(mh lo hi f r).length=r.length:=by simp[mh]
theorem Bi{lo hi f r}(k):(mh lo hi f r)[k]? =r[k]?.map fun x=>if lo<=k/\k<hi then f k x else x:=by simp[mh]
theorem aec(lo f r):mh lo lo f r=r:=List.ext_getElem? fun k=>by rw[Bi,show(fun x=>if lo<=k/\k<lo then f k x else x)=id from funext fun x=>if_neg (by omega),Option.map_id];rfl
theorem aed{lo j f r v}(hv:r[lo+j]? =some v):(mh lo (lo+j) f r).set (lo+j) (f (lo+j) v)=mh lo (lo+(j+1)) f r:=List.ext_getElem? fun k=>by
 have dN:=(List.getElem?_eq_some_iff.1 hv).1;by_cases e:lo+j=k
 .subst e;rw[List.getElem?_set_self (by rw[Ha];exact dN),Bi,hv,Option.map_some,if_pos (by omega)]
 .rw[List.getElem?_set_ne e,Bi,Bi];grind
theorem rowAt{r k v}(h:r[k]? =some v)(pad):∃t,(encI r++pad).drop k= .int .i64 v::t:=
 drop_one (by rw[List.getElem?_append_left (by rw[cc];exact(List.getElem?_eq_some_iff.1 h).1)];exact xO h)
theorem U3{r k}(h:k<r.length)(v pad):(encI r++pad).set k (.int .i64 v)=encI (r.set k v)++pad:=by rw[List.set_append_left _ _ (by rw[cc];exact h)];simp[encI,List.map_set]
theorem nz.cell{h a R W t}(_:nz h a R W t){k x}(hx:R[k]? =some x):∃q,(R.map (fG W)).drop k= .ms x.b 0 W x.c 1::q:=drop_one (arc hx)
theorem nz.ne{h a R W t}(H:nz h a R W t){k j:Nat}{x y}(hx:R[k]? =some x)(hy:R[j]? =some y)(e:k≠j):x.b≠y.b:=fun e2=>by obtain⟨a1,a2⟩:=List.getElem?_eq_some_iff.1 (show(R.map TR.b)[k]? =some x.b by rw[List.getElem?_map,hx];rfl);obtain⟨b1,b2⟩:=List.getElem?_eq_some_iff.1 (show(R.map TR.b)[j]? =some x.b by rw[List.getElem?_map,hy,e2];rfl);have hp:=List.pairwise_iff_getElem.1 H.nd;grind
theorem aee{h B:AH}{b cs T}(i:Nat)(ob)(e:(h.set b (.row cs T)++B)[i]? =some ob):(h++B)[i]? =some ob\/∀st pe li,ob≠ .loop st pe li:=by grind
theorem arf(Γ h)(a W T c i Ld col:Nat)(R t x y r q n)(H:nz h a R W t)(CY:R[i]? =some x)(U4:R[Ld]? =some y)(cV:i≠Ld)(hr:t[i]? =some r)(hq:t[Ld]? =some q)(hn:r[col]? =some n)
  (hW:W<=1000)(hT:R.length=T)(hT2:T<=1000)(He:∀r∈t,∀x∈r,0<=x/\x<1073741789):
  az Tryz.prog Γ 223 [.ms a 0 T c 1,.int .i64 i,.int .i64 Ld,.int .i64 col] h fun _ h'=>∃l,h'=h.set x.b (.row (encI (mh col W (fun k z=>ti z (-(jS n (q.getD k 0)))) r)++x.pad) 3)++l:=by
 obtain⟨tc,hc⟩:=H.cell CY;obtain⟨td,hd⟩:=rowAt hn x.pad;have yw:=H.row _ _ _ CY hr;have hiR:i<T:=by rw[<-hT];grind
 have U5:col<W:=by rw[<-H.wid r (List.mem_of_getElem? hr)];grind
 have nN:∀l,(h++l)[a]? =some (.row (R.map (fG W)) 30):=fun l=>eP l H.fM;have j7:∀l,(h++l)[x.b]? =some (.row (encI r++x.pad) 3):=fun l=>eP l yw;refine cS [] Tryz.func223 ?_;simp(disch:=omega) only[go_sem,seval,nN,Nat.zero_add,Nat.mul_one,hc];refine⟨by omega,?_⟩;simp(disch:=omega) only[go_sem,seval,j7,Nat.zero_add,hd];refine⟨by omega,?_⟩;obtain⟨te,he⟩:=H.cell U4;have nD:Ld<T:=by rw[<-hT];grind
 have xP:=List.mem_of_getElem? hr;refine aJ.intro (fun h1=>?_) (fun h1=>?_)
 .refine aU ?_;subst h1;rw[show mh col W (fun k z=>ti z (-(jS 0 (q.getD k 0)))) r=r from List.ext_getElem? fun k=>?_,ph yw]
  .exact⟨_,rfl⟩
  .rw[Bi];cases e:r[k]? with
   |none=>rfl
   |some z=>
    have hz:=He _ xP z (List.mem_of_getElem? e);rw[Option.map_some];congr 1;split
    .simp[ti,jS];omega
    .rfl
 .simp(disch:=omega) only[go_sem,seval,nN,Nat.zero_add,Nat.mul_one,he];refine⟨by omega,?_⟩;refine bu (az.eT (aea Γ y.b W y.c col _)) ?_;refine bu (bw.keep [4,5,8,25]) ?_;obtain⟨B,hB⟩:∃B:AH,B=[.row [.ms a 0 T c 1] 237,.row [.int .i64 i] 3,.row [.int .i64 n] 3,.row [.ms y.b 0 W y.c 1] 30,.row [.int .i64 col] 3]:=⟨_,rfl⟩;rw[<-hB];have vh:x.b≠y.b:=H.ne CY U4 cV;have hyq:=H.row _ _ _ U4 hq;have hS:∀(o:cO) (k:Nat) X,(h.set x.b o++X)[h.length+k]? =X[k]? :=fun o k X=>by grind
  refine aeb (a1:=h.length+4) (a2:=h.length+3) (b:=y.b) (c:=y.c) (W:=W) (x:=q) (pad:=y.pad) (col:=col) (fun j=>h.set x.b (.row (encI (mh col (col+j) (fun k z=>ti z (-(jS n (q.getD k 0)))) r)++x.pad) 3)++B) rfl hW (by omega) (H.wid _ (List.mem_of_getElem? hq)) ?_ (fun j=>⟨?_,?_,?_,q,?_,H.wid _ (List.mem_of_getElem? hq),fun _ _=>rfl⟩) (fun j i ob e=>aee i ob e) (fun li iZ j v hv=>?_) ?_
  .rw[Nat.add_zero,aec,ph yw]
  .simp
  .rw[hS,hB];rfl
  .rw[hS,hB];rfl
  .grind
  .have hL:∀(o p:cO),(h.set x.b o++(B++[p]))[h.length+B.length]? =some p:=fun o p=>by rw[hS];simp
   have oq:∀(o p p':cO),(h.set x.b o++(B++[p])).set (h.length+B.length) p'=h.set x.b o++(B++[p']):=fun o p p'=>by simp_all
   have U6:∀p:cO,(B++[p])[0]? =some (.row [.ms a 0 T c 1] 237)/\(B++[p])[1]? =some (.row [.int .i64 i] 3)/\(B++[p])[2]? =some (.row [.int .i64 n] 3):=fun p=>by rw[hB];exact⟨rfl,rfl,rfl⟩
   rw[List.length_append,List.append_assoc];refine Ni iZ (hL _ _) rfl rfl Ty.mixed (by kernel_rfl) ?_;simp(disch:=omega) only[go_sem,seval,hL,oq];have g0:∀o p,(h.set x.b o++(B++[p]))[h.length]? =some (.row [.ms a 0 T c 1] 237):=fun o p=>(hS o 0 _).trans (U6 p).1;have g1:∀o p,(h.set x.b o++(B++[p]))[h.length+1]? =some (.row [.int .i64 i] 3):=fun o p=>(hS o 1 _).trans (U6 p).2.1;have g2:∀o p,(h.set x.b o++(B++[p]))[h.length+2]? =some (.row [.int .i64 n] 3):=fun o p=>(hS o 2 _).trans (U6 p).2.2;refine gO ?_;have iD:x.b<h.length:=(List.getElem?_eq_some_iff.1 yw).1;have Au:x.b≠a:=H.na x (List.mem_of_getElem? CY);have ga:∀(o:cO) X,(h.set x.b o++X)[a]? =some (.row (R.map (fG W)) 30):=fun o X=>eP X (by rw[List.getElem?_set_ne Au];exact H.fM);have gx:∀(o:cO) X,(h.set x.b o++X)[x.b]? =some o:=fun o X=>eP X (by rw[List.getElem?_set_self iD]);have sx:∀(o o':cO) X,(h.set x.b o++X).set x.b o'=h.set x.b o'++X:=fun o o' X=>by simp_all
   have dN:col+j<W:=by rw[<-H.wid q (List.mem_of_getElem? hq)];grind
   obtain⟨z,hz⟩:∃z,r[col+j]? =some z:=⟨_,List.getElem?_eq_getElem (by rw[H.wid _ xP];exact dN)⟩;obtain⟨F,hF⟩:∃F:Nat->Int->Int,F=fun k z=>ti z (-(jS n (q.getD k 0))):=⟨_,rfl⟩;rw[<-hF];have rA:(mh col (col+j) F r)[col+j]? =some z:=by rw[Bi,hz,Option.map_some,if_neg (by omega)]
   obtain⟨tf,hf⟩:=rowAt rA x.pad;have hFv:F (col+j) z=ti z (-(jS n v)):=by rw[hF];simp[List.getD_eq_getElem?_getD,hv]
   have fC:=aed (f:=F) hz;rw[hFv]at fC;have Ab:=He _ xP z (List.mem_of_getElem? hz);have OX:=He _ xP n (List.mem_of_getElem? hn);have hw3:=He _ (List.mem_of_getElem? hq) v (List.mem_of_getElem? hv);have hm:=Bh n v;have eN:((col:Int)+j).toNat=col+j:=by omega
   simp(disch:=omega) only[go_sem,seval,g0,g1,g2,ga,Nat.zero_add,Nat.mul_one,hc,gx,eN,hf];refine⟨by omega,by omega,by omega,by omega,?_⟩;refine bu (gY.intro (fun _=>CX Γ n v _ (by omega) (by omega))) ?_;rw[Int.zero_sub];refine gY.intro (fun _=>ad5 Γ z (-(jS n v)) _ (by omega) (by omega)) ?_;simp(disch:=omega) only[go_sem,seval,gx,sx,eN];have dG:col+j<(mh col (col+j) F r).length:=by rw[Ha,H.wid _ xP];exact dN
   refine⟨by omega,by omega,by rw[List.length_append,cc];omega,hL _ _,?_⟩;rw[oq,show 0+(col+j)*1=col+j by omega,U3 dG,fC]
  .refine aU ?_;rw[show col+(W-col)=W by omega];exact⟨_,rfl⟩
theorem Ko{P Γ h f fn c args rs R}(hf:P.funcs[f]? =some fn)(hb:fn.body=some c)(hn:(fn.name== "runtime.NumGoroutine")=false)
  (hN:Nat.ble args.length fn.ntmps=true)(hM:Nat.ble fn.ntmps 1000000=true)(fJ:fn.results=rs.toArray)(hm:P.follows .mixedOrders=true)(hc:gW fn.ntmps c=true)(H:fO P Γ fn.ntmps c (vQ P rs R) ((1000000,.tuple [])::nJ 0 args) h):az P Γ f args h R:=
 Ml hf hb hn hN fJ (bw.mark (by simpa [Nat.ble_eq]using hM) (tL hm c _ _ _ hc H))
theorem lR{P Γ g l h p R R'}(H:nR P Γ g l h p R)(hR:∀h,R h->R' h):nR P Γ g l h p R':=
 ⟨H.1,fun G w vs hI hv=>CallsDIn.mono (H.2 G w vs hI hv) fun e u' w' hr=>by grind⟩
end Go.Proofs.YtmfjlankeocaoaaGreatDoor.Fr.L
namespace Go.Proofs.YtmfjlankeocaoaaGreatDoor.Fr.L
open lV Go Go.Proofs Go.aS
theorem aeg(p:Nat->Prop)(T:Nat):∀d r:Nat,r+d=T->∃k,r<=k/\k<=T/\(∀i,r<=i->i<k->¬p i)/\(k<T->p k)
 |0,r,h=>⟨r,by omega,by omega,by omega,by omega⟩
 |d+1,r,h=>by
  by_cases hp:p r
  .grind
  .obtain⟨k,h1,h2,h3,h4⟩:=aeg p T d (r+1) (by omega);grind
def swp{α:Type}(l:List α)(r k:Nat)(x y:α):List α:=(l.set r y).set k x
theorem swp_get{α l r k}{x y:α}(hr:l[r]? =some x)(hk:l[k]? =some y)(i):(swp l r k x y)[i]? =if i=r then some y else if i=k then some x else l[i]? :=by have h1:=(List.getElem?_eq_some_iff.1 hr).1;have h2:=(List.getElem?_eq_some_iff.1 hk).1;rw[swp,List.getElem?_set,List.getElem?_set,List.length_set];grind
theorem Hk{α}(l r k)(x y:α):(swp l r k x y).length=l.length:=by simp[swp]
theorem Pj{α l r k}{x y:α}(hr:l[r]? =some x)(hk:l[k]? =some y){z}(hz:z∈swp l r k x y):z∈l:=by
 rcases List.mem_or_eq_of_mem_set hz with hz|rfl
 .grind
 .exact List.mem_of_getElem? hr
theorem aeh{α β}(f:α->β)(l r k x y):(swp l r k x y).map f=swp (l.map f) r k (f x) (f y):=by simp[swp,List.map_set]
theorem arj{α l}(h:l.Nodup){r k}{x y:α}(hr:l[r]? =some x)(hk:l[k]? =some y):(swp l r k x y).Nodup:=by
 have inj:∀i j z,l[i]? =some z->l[j]? =some z->i=j:=fun i j z a b=>by obtain⟨a1,a2⟩:=List.getElem?_eq_some_iff.1 a;obtain⟨b1,b2⟩:=List.getElem?_eq_some_iff.1 b;have hp:=List.pairwise_iff_getElem.1 h;grind
 refine List.pairwise_iff_getElem.2 fun i j hi hj nf e=>?_;have a:=List.getElem?_eq_getElem hi;have b:=List.getElem?_eq_getElem hj;rw[<-e]at b;generalize(swp l r k x y)[i]=z at a b;rw[swp_get hr hk]at a b;grind
theorem nz.swap{h a R W t}(H:nz h a R W t){r k x y u v}(hx:R[r]? =some x)(hy:R[k]? =some y)(hu:t[r]? =some u)(hv:t[k]? =some v):
  nz (h.set a (.row ((swp R r k x y).map (fG W)) 30)) a (swp R r k x y) W (swp t r k u v):=by
 have ha:a<h.length:=(List.getElem?_eq_some_iff.1 H.fM).1;refine⟨by rw[List.getElem?_set_self ha],by rw[Hk,Hk];exact H.len,fun s hs=>H.wid s (Pj hu hv hs),fun j z s h1 h2=>?_,?_,fun z hz=>H.na z (Pj hx hy hz)⟩
 .rw[swp_get hx hy]at h1;rw[swp_get hu hv]at h2;have hz:z.b≠a:=H.na z (by grind);rw[List.getElem?_set_ne (Ne.symm hz)];split at h1<;>rename_i c1
  .rw[if_pos c1]at h2;cases h1;cases h2;exact H.row _ _ _ hy hv
  .rw[if_neg c1]at h2;split at h1<;>rename_i c2
   .rw[if_pos c2]at h2;cases h1;cases h2;exact H.row _ _ _ hx hu
   .rw[if_neg c2]at h2;exact H.row _ _ _ h1 h2
 .rw[aeh];exact arj H.nd (by rw[List.getElem?_map,hx];rfl) (by rw[List.getElem?_map,hy];rfl)
def kR(r:List Int)(x:Nat):KK:=kI (r.getD x 0)
def kT(t:List (List Int))(i:Nat):Nat->KK:=kR (t.getD i [])
theorem Hm{r x}(h:r.length<=x):kR r x=0:=by rw[kR,List.getD_eq_getElem?_getD,List.getElem?_eq_none h];rfl
theorem si{t i r}(h:t[i]? =some r):kT t i=kR r:=by rw[kT,List.getD_eq_getElem?_getD,h];rfl
theorem Hn{t i}(h:t.length<=i)(x):kT t i x=0:=by rw[kT,List.getD_eq_getElem?_getD,List.getElem?_eq_none h];exact Hm (Nat.zero_le _)
theorem aei{lo W f r}(h:r.length=W)(x):kR (mh lo W f r) x=if lo<=x/\x<W then kI (f x (r.getD x 0))else kR r x:=by
 rw[kR,List.getD_eq_getElem?_getD,Bi];by_cases hx:x<W
 .rw[List.getElem?_eq_getElem (h▸hx),Option.map_some,Option.getD_some,kR,List.getD_eq_getElem?_getD,List.getElem?_eq_getElem (h▸hx),Option.getD_some];split<;>rfl
 .rw[List.getElem?_eq_none (by omega),if_neg (by omega),Hm (by omega)];rfl
def cF(q row:List Int)(c:Nat)(k:Nat)(z:Int):Int:=ti z (-(jS (row.getD c 0) (q.getD k 0)))
def re(c W r:Nat)(q:List Int)(j:Nat)(t:List (List Int)):List (List Int):=t.mapIdx fun i row=>if i<j/\i≠r then mh c W (cF q row c) row else row
theorem ye{c W r q j t}(i):(re c W r q j t)[i]? =t[i]?.map fun row=>if i<j/\i≠r then mh c W (cF q row c) row else row:=by simp[re]
theorem ark(c W r q t):re c W r q 0 t=t:=List.ext_getElem? fun i=>by rw[ye,show(fun row=>if i<0/\i≠r then mh c W (cF q row c) row else row)=id from funext fun x=>if_neg (by omega),Option.map_id];rfl
theorem arl(c W r q t):re c W r q (r+1) t=re c W r q r t:=List.ext_getElem? fun i=>by rw[ye,ye];grind
theorem arn{c W r j q t row}(hj:j≠r)(h:t[j]? =some row):(re c W r q j t).set j (mh c W (cF q row c) row)=re c W r q (j+1) t:=List.ext_getElem? fun i=>by
 have hl:=(List.getElem?_eq_some_iff.1 h).1;by_cases e:j=i
 .subst e;rw[List.getElem?_set_self (by simpa [re]using hl),ye,h,Option.map_some,if_pos (by omega)]
 .rw[List.getElem?_set_ne e,ye,ye];grind
theorem aro{t W r k c u v n}(hw:∀s∈t,s.length=W)(hr:t[r]? =some u)(hk:t[k]? =some v)(hz:∀x<c,kT t k x=0)(hc:c<W)(q)(hq:q=mh c W (fun _ z=>jS z n) v):
  kT (re c W r q t.length ((swp t r k u v).set r q))=tn (kT t) r k c (kI n):=by
 have ik:=(List.getElem?_eq_some_iff.1 hr).1;have rI:=(List.getElem?_eq_some_iff.1 hk).1;have hvW:=hw v (List.mem_of_getElem? hk);have hqr:∀x,kR q x=kI n*kT t k x:=fun x=>by
  rw[hq,aei hvW,si hk];by_cases h1:c<=x/\x<W
  .rw[if_pos h1,G7,kR];grobner
  .rw[if_neg h1];have:kR v x=0:=by
    by_cases h2:x<c
    .rw[<-si hk];exact hz x h2
    .exact Hm (by omega)
   rw[this];grobner
 have hzq:∀x,¬(c<=x/\x<W)->kT t k x=0:=fun x h=>by
  by_cases h2:x<c
  .exact hz x h2
  .rw[si hk];exact Hm (by omega)
 have cl:∀(row:List Int) x,row.length=W->kR (mh c W (cF q row c) row) x=kR row x+-(kR row c)*(kI n*kT t k x):=fun row x hl=>by
  rw[aei hl];by_cases h:c<=x/\x<W
  .rw[if_pos h,cF,ad2,adS,G7,show kI (q.getD x 0)=kR q x from rfl,hqr,show kI (row.getD x 0)=kR row x from rfl,show kI (row.getD c 0)=kR row c from rfl];grobner
  .rw[if_neg h,hzq x h];grobner
 have t2:∀i,((swp t r k u v).set r q)[i]? =if i=r then some q else if i=k then some u else t[i]? :=fun i=>by
  by_cases e:i=r
  .subst e;rw[List.getElem?_set_self (by rw[Hk];exact ik),if_pos rfl]
  .rw[List.getElem?_set_ne (Ne.symm e),swp_get hr hk,if_neg e,if_neg e]
 funext i x;have fC:∀row,((swp t r k u v).set r q)[i]? =some row->i≠r->i<t.length->row.length=W->kT (re c W r q t.length ((swp t r k u v).set r q)) i x=kR row x+-(kR row c)*(kI n*kT t k x):=fun row h1 h2 h3 h4=>by rw[si (r:=mh c W (cF q row c) row) (by rw[ye,h1,Option.map_some,if_pos ⟨h3,h2⟩]),cl row x h4]
 rw[tn];simp only;by_cases e:i=r
 .subst e;rw[if_pos rfl,si (r:=q) (by rw[ye,t2,if_pos rfl,Option.map_some,if_neg (by omega)]),hqr]
 .rw[if_neg e,if_neg e];by_cases e2:i=k
  .subst e2;rw[if_pos rfl,fC u (by rw[t2,if_neg e,if_pos rfl]) e rI (hw u (List.mem_of_getElem? hr)),si hr]
  .rw[if_neg e2];by_cases hi:i<t.length
   .rw[fC t[i] (by grind) e hi (hw _ (List.getElem_mem hi)),si (List.getElem?_eq_getElem hi)]
   .rw[Hn (by simpa [re,swp]using hi),Hn (by omega),Hn (t:=t) (by omega)];grobner
theorem aek{lo W f r}(h:∀z∈r,0<=z/\z<1073741789)(hf:∀k z,0<=f k z/\f k z<1073741789):∀z∈mh lo W f r,0<=z/\z<1073741789:=fun z hz=>by
 obtain⟨k,hk⟩:=List.getElem?_of_mem hz;rw[Bi]at hk;cases e:r[k]? with
 |none=>rw[e]at hk;cases hk
 |some y=>
  rw[e,Option.map_some]at hk;cases hk;split
  .exact hf _ _
  .exact h y (List.mem_of_getElem? e)
theorem ael{c W r q j t}(h:∀s∈t,∀z∈s,0<=z/\z<1073741789):∀s∈re c W r q j t,∀z∈s,0<=z/\z<1073741789:=fun s hs=>by
 obtain⟨k,hk⟩:=List.getElem?_of_mem hs;rw[ye]at hk;cases e:t[k]? with
 |none=>rw[e]at hk;cases hk
 |some y=>
  rw[e,Option.map_some]at hk;cases hk;split
  .exact aek (h y (List.mem_of_getElem? e)) fun _ _=>ad3 _ _
  .exact h y (List.mem_of_getElem? e)
def PO(b:Nat)(h:AH)(o:aS.Own)(p:List Nat):Prop:=(o= .full/\p=[])\/∃i,o= .bN i/\b<=i/\h[i]? =some (.bN p.length)
structure RSt(h:AH)(a T W ca:Nat)(T0:Nat->Nat->KK)(R:List TR)(c:Nat)(p:List Nat)(o:aS.Own)(hx:AH)(R':List TR)(t:List (List Int)):Prop where
 fM:nz hx a R' W t
 box:hx[h.length]? =some (.row [.ms a 0 T ca 1] 237)
 sub:∀x∈R',x∈R
 len:R'.length=T
 rg:∀r∈t,∀x∈r,0<=x/\x<1073741789
 red:qY T0 (kT t) T W c p
 po:PO (h.length+1) hx o p
 kp:∀(i:Nat) (ob:cO),h[i]? =some ob->i≠a->(∀x∈R,i≠x.b)->hx[i]? =some ob
 lt:∀x∈R,x.b<h.length
 la:a<h.length
def dQ(p:List Nat):List AV:=encI (p.map fun n:Nat=>(n:Int))
theorem ars{b h o o2 p}{c:Nat}{C}(hp:PO b h o p)(hb:b<=h.length)(hl:p.length<=1000000)
  (H:∀o' h',PO b h' o' (p++[c])->(∀i,i<b->h'[i]? =h[i]?)->C (.sl (dQ (p++[c])) o') h'):pU (some (1,8)) (.sl (dQ p) o) (.sl [.int .i64 c] o2) h C:=by
 have e:dQ p++[.int .i64 (c:Int)]=dQ (p++[c]):=by simp[dQ,encI]
 have hlen:(dQ p).length=p.length:=by simp[dQ,encI]
 have rk:∀l:List Nat,db 1 (dQ l):=fun l=>db.int _;have e1:[AV.int .i64 (c:Int)]=dQ [c]:=rfl;rcases hp with⟨rfl,rfl⟩|⟨i,rfl,hi,hg⟩
 .rw[e1];refine yU (rk []) (rk [c]) (by simp[dQ,encI]) (by simp[dQ,encI]) (H _ _ (.inr ⟨_,rfl,hb,by simp[dQ,encI]⟩) fun j hj=>?_);grind
 .rw[e1];have lF:=(List.getElem?_eq_some_iff.1 hg).1;refine yV (by rw[hlen];exact hg) (rk p) (rk [c]) (by rw[hlen];simp[dQ,encI];omega) (by rw[hlen];simp[dQ,encI];omega) ?_;rw[show dQ p++dQ [c]=dQ (p++[c])from e];refine H _ _ (.inr ⟨i,rfl,hi,?_⟩) fun j hj=>?_
  .grind
  .rw[List.getElem?_set_ne (by omega)]
theorem aen(Γ h a T W ca many R t)(H:nz h a R W t)(hT:R.length=T)(hT2:T<=1000)(hW:W<=1000)(hm:many<=W)(He:∀r∈t,∀x∈r,0<=x/\x<1073741789):
  az Tryz.prog Γ 172 [.ms a 0 T ca 1,.int .i64 many] h fun v h'=>∃p o R' t',v= .sl (dQ p) o/\RSt h a T W ca (kT t) R many p o h' R' t':=by
 refine cY [.tmp 4] Tryz.func172 ?_;refine y2 (β:=List Nat×aS.Own×AH×List TR×List (List Int)) (List.range many) [2,4,13,14] (fun ae b=>[(2,.ptr (some (h.length,0))),(4,.sl (dQ b.1) b.2.1),(13,.int .i64 many),(14,.int .i64 ae.length)]) (fun b=>b.2.2.1)
  (fun ae _ b=>RSt h a T W ca (kT t) R ae.length b.1 b.2.1 b.2.2.1 b.2.2.2.1 b.2.2.2.2) ([],.full,h++[.row [.ms a 0 T ca 1] 237],R,t) rfl rfl ?_ (fun ae x r b hd hs=>?_) (fun b hs=>?_)
 .have hlen:t.length=T:=by rw[<-hT];exact H.len.symm
  refine⟨H.more _,by simp,fun _ h=>h,hT,He,qY.start _ _ _,.inl ⟨rfl,rfl⟩,fun i ob e _ _=>eP _ e,fun x hx=>?_,(List.getElem?_eq_some_iff.1 H.fM).1⟩;obtain⟨k,hk⟩:=List.getElem?_of_mem hx;have U2:k<t.length:=by rw[<-H.len];grind
  exact(List.getElem?_eq_some_iff.1 (H.row _ _ _ hk (List.getElem?_eq_getElem U2))).1
 .obtain⟨p,o,hx,R',t'⟩:=b;dsimp only at hs|-;have hlen:many=ae.length+1+r.length:=by have:=congrArg List.length hd;simp at this;omega
  refine cI ?_;refine cI ?_;refine bu (aJ.pos (by omega)) ?_;refine fR (jZ ?_);have ko:(dQ p).length=p.length:=by simp[dQ,encI]
  refine cI ?_;refine eQ ?_;simp(disch:=omega) only[go_sem,seval,ko];refine cI ?_;refine fR (jZ ?_);have U5:ae.length<W:=by omega
  have Ho:=hs.len;have htT:t'.length=T:=by rw[<-hs.fM.len];exact Ho
  obtain⟨k,Gf,hk2,Ol,hk4⟩:=aeg (fun i=>(t'.getD i []).getD ae.length 0≠0) T (T-p.length) p.length (by have:=hs.red.le;omega);have gb:∀l,(hx++l)[h.length]? =some (.row [.ms a 0 T ca 1] 237):=fun l=>eP l hs.box;have gt:∀l,(hx++l)[a]? =some (.row (R'.map (fG W)) 30):=fun l=>eP l hs.fM.fM;have row:∀i,i<T->∃x q r,R'[i]? =some x/\t'[i]? =some q/\(R'.map (fG W)).drop i= .ms x.b 0 W x.c 1::r/\hx[x.b]? =some (.row (encI q++x.pad) 3)/\q.length=W/\(∃z,(encI q++x.pad).drop ae.length= .int .i64 (q.getD ae.length 0)::z)/\t'.getD i []=q:=fun i hi=>by have e1:R'[i]? =some R'[i]:=List.getElem?_eq_getElem (by omega);have e2:t'[i]? =some t'[i]:=List.getElem?_eq_getElem (by omega);obtain⟨r,hr⟩:=hs.fM.cell e1;have hw:=hs.fM.wid _ (List.mem_of_getElem? e2);exact⟨_,_,r,e1,e2,hr,hs.fM.row _ _ _ e1 e2,hw,rowAt (by grind) _,by grind⟩
  refine JQ (List.range (k-p.length)) [2,4,5,6,7,13,14] (fun d=>[(2,.ptr (some (h.length,0))),(4,.sl (dQ p) o),(5,.int .i64 ae.length),(6,.ptr (some (hx.length,0))),(7,.int .i64 ((p.length+d.length:Nat):Int)),(13,.int .i64 many),(14,.int .i64 ae.length)]) (fun _ _ h'=>h'=hx++[.row [.int .i64 p.length] 3]) rfl rfl (fun d y r2 _ dr e=>?_) (fun _ e=>?_)
  .subst e;have rN:p.length+d.length<k:=by have:=congrArg List.length dr;simp at this;omega
   have hz:=Ol (p.length+d.length) (by omega) rN;obtain⟨x,q,r3,q1,q2,q3,q4,q5,⟨z,q6⟩,q7⟩:=row (p.length+d.length) (by omega);rw[q7]at hz;refine eQ ?_;simp(disch:=omega) only[go_sem,seval,gb];refine aJ.pos (by omega) ?_;have eN:((p.length:Int)+d.length).toNat=p.length+d.length:=by omega
   have gx:∀l,(hx++l)[x.b]? =some (.row (encI q++x.pad) 3):=fun l=>eP l q4;simp(disch:=omega) only[go_sem,seval,gb,gt,Nat.zero_add,Nat.mul_one,eN,q3,gx,Int.toNat_natCast,q6];refine⟨by omega,by omega,by omega,aJ.pos (by omega) ?_⟩;refine aU ?_;refine gR ?_;simp[Int.add_assoc]
  .subst e;have ek:((p.length+(List.range (k-p.length)).length:Nat):Int)=k:=by simp;omega
   rw[ek];refine eQ ?_;simp(disch:=omega) only[go_sem,seval,gb];refine aJ.intro (fun hkT=>?_) (fun hkT=>?_)
   .obtain⟨x,q,r3,q1,q2,q3,q4,q5,⟨z,q6⟩,q7⟩:=row k (by omega);have hz:=hk4 (by omega);rw[q7]at hz;have gx:∀l,(hx++l)[x.b]? =some (.row (encI q++x.pad) 3):=fun l=>eP l q4;simp(disch:=omega) only[go_sem,seval,gb,gt,Nat.zero_add,Nat.mul_one,q3,gx,Int.toNat_natCast,q6];refine⟨by omega,by omega,aJ.neg hz ?_⟩;refine aU ?_;refine bu (bw.keep [2,4,5,6,7,13,14]) ?_;have aep:k<T:=by omega
    refine eQ ?_;simp(disch:=omega) only[go_sem,seval,gb];refine bu (aJ.neg (by omega)) ?_;refine fR ?_;refine bu (bw.keep [2,4,5,6,7,13,14]) ?_;obtain⟨x0,u,r4,u1,u2,u3,u4,u5,-,-⟩:=row p.length (by omega);obtain⟨B0,Bj⟩:∃B0:AH,B0=hx++[.row [.int .i64 p.length] 3]:=⟨_,rfl⟩;have C0:=gb [.row [.int .i64 p.length] 3];have Le:=gt [.row [.int .i64 p.length] 3];have Lf:B0[hx.length]? =some (.row [.int .i64 p.length] 3):=by rw[Bj];simp
    rw[<-Bj]at C0 Le|-;have la:=hs.la;have lhx:h.length<hx.length:=(List.getElem?_eq_some_iff.1 hs.box).1;obtain⟨Hd,lS⟩:∃Hd:List Nat->AH,Hd=fun done=>if 15∈done then B0.set a (.row (swp (R'.map (fG W)) p.length k (fG W x0) (fG W x)) 30)else if 13∈done then B0.set a (.row ((R'.map (fG W)).set p.length (fG W x)) 30)else B0:=⟨_,rfl⟩
    have Hb:∀d,(Hd d)[h.length]? =some (.row [.ms a 0 T ca 1] 237):=fun d=>by
     rw[lS];simp only;split
     .rw[List.getElem?_set_ne (by omega)];exact C0
     .split
      .rw[List.getElem?_set_ne (by omega)];exact C0
      .exact C0
    have Hr:∀d,(Hd d)[hx.length]? =some (.row [.int .i64 p.length] 3):=fun d=>by
     rw[lS];simp only;split
     .rw[List.getElem?_set_ne (by omega)];exact Lf
     .split
      .rw[List.getElem?_set_ne (by omega)];exact Lf
      .exact Lf
    have H0:∀d,13∉d->15∉d->Hd d=B0:=fun d e1 e2=>by grind
    obtain⟨val,c_⟩:∃val:Nat->AV,val=fun q=>[.ms a 0 T ca 1,.int .i64 p.length,.ms a 0 T ca 1,.int .i64 k,.ms a 0 T ca 1,.int .i64 k,.ptr (some (a,k)),fG W x,.ms a 0 T ca 1,.int .i64 p.length,.ptr (some (a,p.length)),fG W x0,.ptr (some (a,p.length)),.top,.ptr (some (a,k))].getD q .top:=⟨_,rfl⟩;obtain⟨td,ff⟩:∃td:Nat->Nat,td=fun i=>if i=14 then 53 else 40+i:=⟨_,rfl⟩
    obtain⟨Iv,lz⟩:∃Iv:List Nat->Tm->AH->Prop,Iv=fun done σ h'=>(lk σ 2= .ptr (some (h.length,0))/\lk σ 6= .ptr (some (hx.length,0))/\lk σ 7= .int .i64 k)/\(lk σ 4= .sl (dQ p) o/\lk σ 5= .int .i64 ae.length/\lk σ 13= .int .i64 many/\lk σ 14= .int .i64 ae.length)/\(∀i∈done,i<15->i≠13->lk σ (td i)=val i)/\h'=Hd done:=⟨_,rfl⟩;have ki:∀(i:Nat) (done:List Nat) (σ:Tm) (h':AH) (u:AV) (t:Nat),i<15->i≠13->t=td i->u=val i->Iv done σ h'->i∉done->Iv (i::done) (put (some t) u σ) h':=fun i done σ h' u t hi qy ht hu hI dy=>by
     subst hu ht;rw[lz]at hI|-;obtain⟨⟨a1,a2,a3⟩,⟨a4,a5,a6,a7⟩,a8,a9⟩:=hI;have ne:∀t,t<40->t≠td i:=fun t ht=>by rw[ff];simp only;split<;>omega
     have q:∀t,t<40->lk (put (some (td i)) (val i) σ) t=lk σ t:=fun t ht=>kU (ne t ht) _ _;refine⟨⟨(q 2 (by omega)).trans a1,(q 6 (by omega)).trans a2,(q 7 (by omega)).trans a3⟩,⟨(q 4 (by omega)).trans a4,(q 5 (by omega)).trans a5,(q 13 (by omega)).trans a6,(q 14 (by omega)).trans a7⟩,fun j hj h1 h2=>?_,?_⟩
     .rcases List.mem_cons.1 hj with rfl|hj
      .rw[y_]
      .have qu:j≠i:=fun e=>dy (e▸hj);rw[kU (by rw[ff];simp only;split<;>split<;>omega)];exact a8 j hj h1 h2
     .rw[a9,lS];have e9:(15∈i::done)<->15∈done:=by simp;omega
      have e7:(13∈i::done)<->13∈done:=by simp;omega
      simp only[e9,e7]
    refine N7 [[],[],[],[],[],[],[4,5],[6],[],[],[8,9],[10],[0,1],[7,11,12],[2,3],[11,13,14]] Iv Ty.mixed (by kernel_rfl) (by kernel_rfl) (by kernel_rfl) ?_ ?_ ?_
    .rw[lz];exact⟨⟨rfl,rfl,rfl⟩,⟨rfl,rfl,rfl,rfl⟩,by simp,(H0 [] (by simp) (by simp)).symm⟩
    .intro i op ho done σ h' hI dr dG dy C hC;have gT:=hI;rw[lz]at hI;obtain⟨⟨a1,a2,a3⟩,-,a8,a9⟩:=hI;rcases i with _|_|_|_|_|_|_|_|_|_|_|_|_|_|_|_|i;all_goals simp only[List.getElem?_toArray,List.getElem?_cons_zero,List.getElem?_cons_succ,Option.some.injEq,List.getElem?_nil,reduceCtorEq,Nat.zero_add,Nat.reduceAdd]at ho
     all_goals subst ho
     all_goals rw[AP]
     all_goals subst a9
     .simp(disch:=omega) only[go_sem,seval,a1,Hb];exact hC _ _ (ki 0 done σ _ _ _ (by omega) (by omega) (by rw[ff];rfl) (by rw[c_];rfl) gT dy)
     .simp(disch:=omega) only[go_sem,seval,a2,Hr];exact hC _ _ (ki 1 done σ _ _ _ (by omega) (by omega) (by rw[ff];rfl) (by rw[c_];rfl) gT dy)
     .simp(disch:=omega) only[go_sem,seval,a1,Hb];exact hC _ _ (ki 2 done σ _ _ _ (by omega) (by omega) (by rw[ff];rfl) (by rw[c_];rfl) gT dy)
     .simp(disch:=omega) only[go_sem,seval,a3];exact hC _ _ (ki 3 done σ _ _ _ (by omega) (by omega) (by rw[ff];rfl) (by rw[c_];rfl) gT dy)
     .simp(disch:=omega) only[go_sem,seval,a1,Hb];exact hC _ _ (ki 4 done σ _ _ _ (by omega) (by omega) (by rw[ff];rfl) (by rw[c_];rfl) gT dy)
     .simp(disch:=omega) only[go_sem,seval,a3];exact hC _ _ (ki 5 done σ _ _ _ (by omega) (by omega) (by rw[ff];rfl) (by rw[c_];rfl) gT dy)
     .have v4:lk σ 44= .ms a 0 T ca 1:=by have:=a8 4 (dr 4 (by decide)) (by omega) (by omega);simpa [ff,c_,fG]using this
      have v5:lk σ 45= .int .i64 k:=by have:=a8 5 (dr 5 (by decide)) (by omega) (by omega);simpa [ff,c_,fG]using this
      simp(disch:=omega) only[go_sem,seval,v4,v5,Nat.zero_add,Nat.mul_one,Int.toNat_natCast];refine⟨by omega,?_⟩;exact hC _ _ (ki 6 done σ _ _ _ (by omega) (by omega) (by rw[ff];rfl) (by rw[c_];rfl) gT dy)
     .have v6:lk σ 46= .ptr (some (a,k)):=by have:=a8 6 (dr 6 (by decide)) (by omega) (by omega);simpa [ff,c_,fG]using this
      have qy:13∉done:=fun e=>dy (dG 13 e 7 (by decide));have yX:15∉done:=fun e=>qy (dG 15 e 13 (by decide));rw[H0 done qy yX]at gT|-;simp(disch:=omega) only[go_sem,seval,v6,Le,q3];exact hC _ _ (ki 7 done σ _ _ _ (by omega) (by omega) (by rw[ff];rfl) (by rw[c_];rfl) gT dy)
     .simp(disch:=omega) only[go_sem,seval,a1,Hb];exact hC _ _ (ki 8 done σ _ _ _ (by omega) (by omega) (by rw[ff];rfl) (by rw[c_];rfl) gT dy)
     .simp(disch:=omega) only[go_sem,seval,a2,Hr];exact hC _ _ (ki 9 done σ _ _ _ (by omega) (by omega) (by rw[ff];rfl) (by rw[c_];rfl) gT dy)
     .have v8:lk σ 48= .ms a 0 T ca 1:=by have:=a8 8 (dr 8 (by decide)) (by omega) (by omega);simpa [ff,c_,fG]using this
      have v9:lk σ 49= .int .i64 p.length:=by have:=a8 9 (dr 9 (by decide)) (by omega) (by omega);simpa [ff,c_,fG]using this
      simp(disch:=omega) only[go_sem,seval,v8,v9,Nat.zero_add,Nat.mul_one,Int.toNat_natCast];refine⟨by omega,?_⟩;exact hC _ _ (ki 10 done σ _ _ _ (by omega) (by omega) (by rw[ff];rfl) (by rw[c_];rfl) gT dy)
     .have v10:lk σ 50= .ptr (some (a,p.length)):=by have:=a8 10 (dr 10 (by decide)) (by omega) (by omega);simpa [ff,c_,fG]using this
      have qy:13∉done:=fun e=>dy (dG 13 e 11 (by decide));have yX:15∉done:=fun e=>qy (dG 15 e 13 (by decide));rw[H0 done qy yX]at gT|-;simp(disch:=omega) only[go_sem,seval,v10,Le,u3];exact hC _ _ (ki 11 done σ _ _ _ (by omega) (by omega) (by rw[ff];rfl) (by rw[c_];rfl) gT dy)
     .have v0:lk σ 40= .ms a 0 T ca 1:=by have:=a8 0 (dr 0 (by decide)) (by omega) (by omega);simpa [ff,c_,fG]using this
      have v1:lk σ 41= .int .i64 p.length:=by have:=a8 1 (dr 1 (by decide)) (by omega) (by omega);simpa [ff,c_,fG]using this
      simp(disch:=omega) only[go_sem,seval,v0,v1,Nat.zero_add,Nat.mul_one,Int.toNat_natCast];refine⟨by omega,?_⟩;exact hC _ _ (ki 12 done σ _ _ _ (by omega) (by omega) (by rw[ff];rfl) (by rw[c_];rfl) gT dy)
     .have v12:lk σ 52= .ptr (some (a,p.length)):=by have:=a8 12 (dr 12 (by decide)) (by omega) (by omega);simpa [ff,c_,fG]using this
      have v7:lk σ 47= .ms x.b 0 W x.c 1:=by have:=a8 7 (dr 7 (by decide)) (by omega) (by omega);simpa [ff,c_,fG]using this
      have yX:15∉done:=fun e=>dy (dG 15 e 13 (by decide));rw[H0 done dy yX];simp(disch:=omega) only[go_sem,seval,v12,v7,Le,List.length_map];refine⟨by omega,hC _ _ ?_⟩;rw[lz]at gT|-;refine⟨gT.1,gT.2.1,fun j hj h1 h2=>?_,?_⟩
      .rcases List.mem_cons.1 hj with rfl|hj
       .exact absurd rfl h2
       .exact gT.2.2.1 j hj h1 h2
      .rw[lS];simp only;rw[if_neg (by simp[yX]),if_pos (by simp)];rfl
     .have v2:lk σ 42= .ms a 0 T ca 1:=by have:=a8 2 (dr 2 (by decide)) (by omega) (by omega);simpa [ff,c_,fG]using this
      have v3:lk σ 43= .int .i64 k:=by have:=a8 3 (dr 3 (by decide)) (by omega) (by omega);simpa [ff,c_,fG]using this
      simp(disch:=omega) only[go_sem,seval,v2,v3,Nat.zero_add,Nat.mul_one,Int.toNat_natCast];refine⟨by omega,?_⟩;exact hC _ _ (ki 14 done σ _ _ _ (by omega) (by omega) (by rw[ff];rfl) (by rw[c_];rfl) gT dy)
     .have v14:lk σ 53= .ptr (some (a,k)):=by have:=a8 14 (dr 14 (by decide)) (by omega) (by omega);simpa [ff,c_,fG]using this
      have v11:lk σ 51= .ms x0.b 0 W x0.c 1:=by have:=a8 11 (dr 11 (by decide)) (by omega) (by omega);simpa [ff,c_,fG]using this
      have qy:=dr 13 (by decide);have e1:Hd done=B0.set a (.row ((R'.map (fG W)).set p.length (fG W x)) 30):=by rw[lS];simp only;rw[if_neg dy,if_pos qy]
      rw[e1];have gt1:(B0.set a (.row ((R'.map (fG W)).set p.length (fG W x)) 30))[a]? =some (.row ((R'.map (fG W)).set p.length (fG W x)) 30):=List.getElem?_set_self (List.getElem?_eq_some_iff.1 Le).1;simp(disch:=omega) only[go_sem,seval,v14,v11,gt1,List.length_map,List.length_set];refine⟨by omega,hC _ _ ?_⟩;rw[lz]at gT|-;refine⟨gT.1,gT.2.1,fun j hj h1 h2=>?_,?_⟩
      .rcases List.mem_cons.1 hj with rfl|hj
       .omega
       .exact gT.2.2.1 j hj h1 h2
      .rw[lS];simp only;rw[if_pos (by simp),List.set_set,swp];rfl
    .intro done σ h' kK hI;rw[lz]at hI;obtain⟨⟨a1,a2,a3⟩,⟨a4,a5,a6,a7⟩,-,a9⟩:=hI;have e15:=kK 15 (by decide);subst a9;refine aU ?_;refine bw.keep [2,4,5,6,7,13,14] ?_;have hk7:keep [2,4,5,6,7,13,14] σ=[(2,.ptr (some (h.length,0))),(4,.sl (dQ p) o),(5,.int .i64 ae.length),(6,.ptr (some (hx.length,0))),(7,.int .i64 k),(13,.int .i64 many),(14,.int .i64 ae.length)]:=by simp[keep,a1,a2,a3,a4,a5,a6,a7]
     rw[hk7];clear a1 a2 a3 a4 a5 a6 a7 hk7;have e1:Hd done=B0.set a (.row (swp (R'.map (fG W)) p.length k (fG W x0) (fG W x)) 30):=by rw[lS];simp only;rw[if_pos e15]
     rw[e1,<-aeh];have hB:nz B0 a R' W t':=Bj▸hs.fM.more _;have H1:=hB.swap u1 q1 u2 q2;obtain⟨B1,Pn⟩:∃B1:AH,B1=B0.set a (.row ((swp R' p.length k x0 x).map (fG W)) 30):=⟨_,rfl⟩;rw[<-Pn]at H1|-;have b1:∀l,(B1++l)[h.length]? =some (.row [.ms a 0 T ca 1] 237):=fun l=>eP l (by rw[Pn,List.getElem?_set_ne (by omega)];exact C0);have r1:∀l,(B1++l)[hx.length]? =some (.row [.int .i64 p.length] 3):=fun l=>eP l (by rw[Pn,List.getElem?_set_ne (by omega)];exact Lf);have t1:∀l,(B1++l)[a]? =some (.row ((swp R' p.length k x0 x).map (fG W)) 30):=fun l=>eP l H1.fM;have s1:(swp R' p.length k x0 x)[p.length]? =some x:=by rw[swp_get u1 q1,if_pos rfl]
     have s2:(swp t' p.length k u q)[p.length]? =some q:=by rw[swp_get u2 q2,if_pos rfl]
     obtain⟨r5,U9⟩:=H1.cell s1;have x1:∀l,(B1++l)[x.b]? =some (.row (encI q++x.pad) 3):=fun l=>eP l (H1.row _ _ _ s1 s2);have U_:0<=q.getD ae.length 0/\q.getD ae.length 0<1073741789:=hs.rg _ (List.mem_of_getElem? q2) _ (by rw[List.getD_eq_getElem?_getD,List.getElem?_eq_getElem (by omega)];exact List.getElem_mem _);have Va:=b1 [];have Vb:=r1 [];have Vc:=t1 [];have x1':=x1 [];rw[List.append_nil]at Va Vb Vc x1';refine eQ ?_;simp(disch:=omega) only[go_sem,seval,Va,Vb,Vc,Nat.zero_add,Nat.mul_one,Int.toNat_natCast,U9,x1',q6];refine⟨by omega,by omega,?_⟩;refine az.cv (ad6 Γ _ _ U_) ?_;rw[if_neg hz];refine aU ?_;obtain⟨n,hn⟩:∃n,n=yb (q.getD ae.length 0):=⟨_,rfl⟩;rw[<-hn];refine eQ ?_;simp(disch:=omega) only[go_sem,seval,b1,r1,t1,Nat.zero_add,Nat.mul_one,Int.toNat_natCast,U9];refine⟨by omega,?_⟩;refine bu (az.eT (aea Γ x.b W x.c ae.length _)) ?_;refine bu (bw.keep [2,4,5,6,8,13,14,70]) ?_;obtain⟨B,hB⟩:∃B:AH,B=[.row [.int .i64 n] 3,.row [.ms x.b 0 W x.c 1] 30,.row [.int .i64 ae.length] 3]:=⟨_,rfl⟩;rw[<-hB];have yw:=H1.row _ _ _ s1 s2;have iD:x.b<B1.length:=(List.getElem?_eq_some_iff.1 yw).1;have Lg:=hs.fM.wid q (List.mem_of_getElem? q2);have hS:∀(o:cO) (k:Nat) X,(B1.set x.b o++X)[B1.length+k]? =X[k]? :=fun o k X=>by rw[List.getElem?_append_right (by simp)];simp
     refine aeb (a1:=B1.length+2) (a2:=B1.length+1) (b:=x.b) (c:=x.c) (W:=W) (x:=q) (pad:=x.pad) (col:=ae.length) (fun j=>B1.set x.b (.row (encI (mh ae.length (ae.length+j) (fun _ z=>jS z n) q)++x.pad) 3)++B) rfl hW (by omega) Lg ?_ (fun j=>⟨?_,?_,?_,mh ae.length (ae.length+j) (fun _ z=>jS z n) q,?_,?_,fun i hi=>?_⟩) (fun j i ob e=>aee i ob e) (fun li iZ j v hv=>?_) ?_
     .rw[Nat.add_zero,aec,ph yw]
     .simp
     .rw[hS,hB];rfl
     .rw[hS,hB];rfl
     .exact eP _ (by rw[List.getElem?_set_self iD])
     .rw[Ha];exact Lg
     .rw[Bi,show(fun x=>if ae.length<=i/\i<ae.length+j then jS x n else x)=id from funext fun x=>if_neg (by omega),Option.map_id];rfl
     .have hL:∀(o p:cO),(B1.set x.b o++(B++[p]))[B1.length+B.length]? =some p:=fun o p=>by rw[hS];simp
      have oq:∀(o p p':cO),(B1.set x.b o++(B++[p])).set (B1.length+B.length) p'=B1.set x.b o++(B++[p']):=fun o p p'=>by rw[List.set_append_right _ _ (by simp)];simp
      have hxh:x.b<h.length:=hs.lt x (hs.sub x (List.mem_of_getElem? q1));have Au:x.b≠a:=H1.na x (List.mem_of_getElem? s1);have gn:∀(o p:cO),(B1.set x.b o++(B++[p]))[B1.length]? =some (.row [.int .i64 n] 3):=fun o p=>by have:=hS o 0 (B++[p]);rw[hB]at this|-;exact this
      have gh:∀(o:cO) X,(B1.set x.b o++X)[h.length]? =some (.row [.ms a 0 T ca 1] 237):=fun o X=>eP X (by rw[List.getElem?_set_ne (by omega)];exact Va);have gr:∀(o:cO) X,(B1.set x.b o++X)[hx.length]? =some (.row [.int .i64 p.length] 3):=fun o X=>eP X (by rw[List.getElem?_set_ne (by omega)];exact Vb);have ga:∀(o:cO) X,(B1.set x.b o++X)[a]? =some (.row ((swp R' p.length k x0 x).map (fG W)) 30):=fun o X=>eP X (by rw[List.getElem?_set_ne Au];exact Vc);have gx:∀(o:cO) X,(B1.set x.b o++X)[x.b]? =some o:=fun o X=>eP X (by rw[List.getElem?_set_self iD]);have sx:∀(o o':cO) X,(B1.set x.b o++X).set x.b o'=B1.set x.b o'++X:=fun o o' X=>by rw[List.set_append_left _ _ (by simpa using iD),List.set_set]
      have dN:ae.length+j<W:=by rw[<-Lg];exact(List.getElem?_eq_some_iff.1 hv).1
      have fC:=aed (lo:=ae.length) (j:=j) (f:=fun _ z=>jS z n) hv;have dG:ae.length+j<(mh ae.length (ae.length+j) (fun _ z=>jS z n) q).length:=by rw[Ha,Lg];exact dN
      have hw3:=hs.rg _ (List.mem_of_getElem? q2) v (List.mem_of_getElem? hv);have Nw:0<=n/\n<1073741789:=by rw[hn,yb];exact U0 _ _ _ (by omega)
      have eN:((ae.length:Int)+j).toNat=ae.length+j:=by omega
      rw[List.length_append,List.append_assoc];refine Ni iZ (hL _ _) rfl rfl Ty.mixed (by kernel_rfl) ?_;simp(disch:=omega) only[go_sem,seval,hL,oq];refine gO ?_;simp(disch:=omega) only[go_sem,seval,gh,gr,gn,ga,Nat.zero_add,Nat.mul_one,U9,Int.toNat_natCast];refine⟨by omega,?_⟩;refine gY.intro (fun _=>CX Γ v n _ (by omega) (by omega)) ?_;simp(disch:=omega) only[go_sem,seval,gx,sx,eN];refine⟨by omega,by omega,by rw[List.length_append,cc];omega,hL _ _,?_⟩;rw[oq,show 0+(ae.length+j)*1=ae.length+j by omega,U3 dG,fC]
     .refine aU ?_;rw[show ae.length+(W-ae.length)=W by omega];obtain⟨Q,hQ⟩:∃Q,Q=mh ae.length W (fun _ z=>jS z n) q:=⟨_,rfl⟩;rw[<-hQ];have hQW:Q.length=W:=by rw[hQ,Ha];exact Lg
      have Nw:0<=n/\n<1073741789:=by rw[hn,yb];exact U0 _ _ _ (by omega)
      have hQr:∀z∈Q,0<=z/\z<1073741789:=hQ▸aek (hs.rg _ (List.mem_of_getElem? q2)) fun _ z=>Bh z n;obtain⟨t2,Lh⟩:∃t2,t2=(swp t' p.length k u q).set p.length Q:=⟨_,rfl⟩;have H2:=H1.put s1 hQW;rw[<-Lh]at H2;have aCD:t2.length=T:=by rw[Lh,List.length_set,Hk];exact htT
      have rg2:∀s∈t2,∀z∈s,0<=z/\z<1073741789:=fun s zU=>by
       rw[Lh]at zU;rcases List.mem_or_eq_of_mem_set zU with zU|rfl
       .exact hs.rg s (Pj u2 q2 zU)
       .exact hQr
      have Vd:∀y∈swp R' p.length k x0 x,y∈R:=fun y hy=>hs.sub y (Pj u1 q1 hy);have R2T:(swp R' p.length k x0 x).length=T:=by rw[Hk];exact Ho
      have Ve:∀(i:Nat) (ob:cO),B0[i]? =some ob->i≠a->(∀y∈R,i≠y.b)->(B1.set x.b (.row (encI Q++x.pad) 3)++(B++[cO.dead]))[i]? =some ob:=fun i ob e h1 h2=>eP _ (by rw[List.getElem?_set_ne (Ne.symm (h2 x (hs.sub x (List.mem_of_getElem? q1)))),Pn,List.getElem?_set_ne (Ne.symm h1)];exact e)
      obtain⟨Z0,hZ0⟩:∃Z0:AH,Z0=B1.set x.b (.row (encI Q++x.pad) 3)++(B++[cO.dead]):=⟨_,rfl⟩;have H3:nz Z0 a (swp R' p.length k x0 x) W t2:=hZ0▸H2.more _;rw[<-hZ0]at Ve|-;have Hq:h.length≠a/\∀y∈R,h.length≠y.b:=⟨by omega,fun y hy=>by have:=hs.lt y hy;omega⟩;have ne2:hx.length≠a/\∀y∈R,hx.length≠y.b:=⟨by omega,fun y hy=>by have:=hs.lt y hy;omega⟩;have z1:=Ve _ _ C0 Hq.1 Hq.2;refine bu (bw.keep [2,4,5,6,13,14]) ?_;refine fR ?_;refine eQ ?_;simp(disch:=omega) only[go_sem,seval,z1];refine jZ ?_;refine y2 (β:=AH) (List.range T) [2,4,5,6,13,14,83,84] (fun d _=>[(2,.ptr (some (h.length,0))),(4,.sl (dQ p) o),(5,.int .i64 ae.length),(6,.ptr (some (hx.length,0))),(13,.int .i64 many),(14,.int .i64 ae.length),(83,.int .i64 T),(84,.int .i64 d.length)]) id
       (fun d _ z=>nz z a (swp R' p.length k x0 x) W (re ae.length W p.length Q d.length t2)/\∀(i:Nat) (ob:cO),B0[i]? =some ob->i≠a->(∀y∈R,i≠y.b)->z[i]? =some ob) Z0 ?_ rfl ⟨by rw[List.length_nil,ark];exact H3,Ve⟩ (fun d y r6 z dr rA=>?_) (fun z rA=>?_)
      .rfl
      .obtain⟨HZ,vP⟩:=rA;have rN:d.length<T:=by have:=congrArg List.length dr;simp at this;omega
       have zb:=vP _ _ C0 Hq.1 Hq.2;have zr:=vP _ _ Lf ne2.1 ne2.2;dsimp only[id];refine cI ?_;refine cI ?_;refine bu (aJ.pos (by omega)) ?_;refine fR (jZ ?_);refine cI ?_;refine gO ?_;simp(disch:=omega) only[go_sem,seval,zr];have t2p:t2[p.length]? =some Q:=by rw[Lh,List.getElem?_set_self (by rw[Hk];omega)]
       refine aJ.intro (fun heq=>?_) (fun cV=>?_)
       .have arE:d.length=p.length:=by omega
        refine aU ?_;refine gR ?_;refine cd z ⟨?_,vP⟩ (by simp;rfl) rfl;rw[show(d++[y]).length=p.length+1 by simp;omega,arl];rw[arE]at HZ;exact HZ
       .have aey:d.length≠p.length:=by omega
        obtain⟨xi,CY⟩:∃xi,(swp R' p.length k x0 x)[d.length]? =some xi:=⟨_,List.getElem?_eq_getElem (by omega)⟩;obtain⟨w,hw⟩:∃w,t2[d.length]? =some w:=⟨_,List.getElem?_eq_getElem (by omega)⟩;have g1:(re ae.length W p.length Q d.length t2)[d.length]? =some w:=by rw[ye,hw,Option.map_some,if_neg (by omega)]
        have g2:(re ae.length W p.length Q d.length t2)[p.length]? =some Q:=by rw[ye,t2p,Option.map_some,if_neg (by omega)]
        have hwW:=HZ.wid w (List.mem_of_getElem? g1);simp(disch:=omega) only[go_sem,seval,zb,zr];refine az.mono (arf Γ z a W T ca d.length p.length ae.length _ _ xi x w Q (w.getD ae.length 0) HZ CY s1 aey g1 g2 (by rw[List.getD_eq_getElem?_getD,List.getElem?_eq_getElem (by omega)];rfl) hW R2T hT2 (ael rg2)) ?_;rintro _ z' ⟨l,rfl⟩;refine aU ?_;refine gR ?_;refine cd (_++l) ⟨?_,fun i ob e h1 h2=>?_⟩ (by simp;rfl) rfl
        .have:=HZ.put CY (r:=mh ae.length W (cF Q w ae.length) w) (by rw[Ha];exact hwW);rw[arn aey hw]at this;rw[List.length_append];exact this.more l
        .exact eP l (by rw[List.getElem?_set_ne (Ne.symm (h2 xi (Vd xi (List.mem_of_getElem? CY))))];exact vP i ob e h1 h2)
      .obtain⟨HZ,vP⟩:=rA;dsimp only[id];refine cI ?_;refine cI ?_;refine bu (aJ.neg (by simp)) ?_;refine bu (bw.keep [2,4,5,13,14]) ?_;refine gR ?_;have zl:∀{i ob},z[i]? =some ob->i<z.length:=fun e=>(List.getElem?_eq_some_iff.1 e).1;have zb:=vP _ _ C0 Hq.1 Hq.2;have hpo:PO (h.length+1) z o p:=by
        rcases hs.po with e|⟨i,e1,e2,e3⟩
        .exact .inl e
        .exact .inr ⟨i,e1,e2,vP _ _ (by rw[Bj];exact eP _ e3) (by omega) fun y hy=>by have:=hs.lt y hy;omega⟩
       refine ars hpo (by have:=zl zb;omega) (by omega) fun o' z' arJ ng=>?_;refine aU ?_;refine gR ?_;have lt':∀y∈swp R' p.length k x0 x,y.b<h.length:=fun y hy=>hs.lt y (Vd y hy);refine cd (p++[ae.length],o',z',swp R' p.length k x0 x,re ae.length W p.length Q T t2) (by
        refine⟨?_,?_,Vd,R2T,ael rg2,?_,arJ,fun i ob e h1 h2=>?_,hs.lt,hs.la⟩
        .rw[List.length_range]at HZ;refine HZ.keep fun i ob e hi=>?_;rw[ng i (by rcases hi with rfl|⟨y,hy,rfl⟩;omega;have:=lt' y hy;omega)];exact e
        .rw[ng _ (by omega)];exact zb
        .have Dh:∀x<ae.length,kT t' k x=0:=fun x nh=>hs.red.rest k Gf aep x nh;have hk:=aro (n:=n) hs.fM.wid u2 q2 Dh U5 Q hQ;rw[<-Lh,htT]at hk;rw[List.length_append,List.length_singleton];show qY _ (kT (re ae.length W p.length Q T t2)) T W (ae.length+1) (p++[ae.length]);rw[hk];refine hs.red.RT Gf aep U5 ?_;rw[si q2,kR,hn];exact aq7 (by omega)
        .rw[ng i (by have:=(List.getElem?_eq_some_iff.1 e).1;omega)];exact vP i ob (by rw[Bj];exact eP _ (hs.kp i ob e h1 h2)) h1 h2) ?_ rfl
       simp;rfl
   .refine aU ?_;refine bu (bw.keep [2,4,5,6,7,13,14]) ?_;refine eQ ?_;simp(disch:=omega) only[go_sem,seval,gb];refine bu (aJ.pos (by omega)) ?_;refine gR ?_;refine cd (p,o,hx++[.row [.int .i64 p.length] 3],R',t') (by
     refine⟨hs.fM.more _,gb _,hs.sub,hs.len,hs.rg,?_,?_,fun i ob e h1 h2=>eP _ (hs.kp i ob e h1 h2),hs.lt,hs.la⟩
     .rw[List.length_append,List.length_singleton];refine hs.red.skip fun i h1 h2=>?_;obtain⟨_,q,_,_,q2,_,_,_,_,q7⟩:=row i h2;have:=Ol i h1 (by omega);rw[q7]at this;rw[si q2,kR,Decidable.not_not.1 this];rfl
     .rcases hs.po with e|⟨i,e1,e2,e3⟩
      .exact .inl e
      .exact .inr ⟨i,e1,e2,eP _ e3⟩) (by simp;rfl) rfl
 .obtain⟨p,o,hx,R',t'⟩:=b;dsimp only at hs|-;rw[List.length_range]at hs;refine cI ?_;refine cI ?_;refine bu (aJ.neg (by simp)) ?_;refine bu (bw.keep [4]) ?_;refine gR ?_;exact⟨p,o,R',t',rfl,hs⟩
theorem Oz(l):flat (encI l)=encI l:=by
 induction l with
 |nil=>rfl
 |cons x l ih=>
  have:flat (.int .i64 x::encI l)= .int .i64 x::flat (encI l):=rfl;rw[show encI (x::l)= .int .i64 x::encI l from rfl,this,ih]
theorem abp(Γ l h)(hl:l.length<=1000000)(cV:l≠[]):
  az Tryz.prog Γ 224 [.sl (encI l) .free] h fun v h'=>∃j q c pad,h'=h++j/\v= .ms (h.length+q) 0 l.length c 1/\j[q]? =some (.row (encI l++pad) 3):=by
 have Ib:0<l.length:=List.length_pos_iff.2 cV;refine bu (Ko (rs:=[.tmp 2]) Tryz.func224 rfl rfl rfl rfl rfl Ty.mixed (by kernel_rfl)) ?_;refine X3 (fun h0=>?_) ?_<;>simp(disch:=omega) only[go_sem,seval]
 .exact absurd h0 (by simp[encI,cV])
 refine⟨by omega,rfl,by simp,?_⟩;simp(disch:=omega) only[go_sem,seval,List.map_nil];refine⟨encI l,rfl,db.int _,rfl,?_⟩;simp(disch:=omega) only[go_sem,seval,cc];refine⟨by omega,by omega,by simp,fun h0=>by omega,fun h0 c hc=>?_⟩;refine⟨_,1,c,List.replicate (c-l.length) .top,rfl,?_,?_⟩
 .simp
 .simp[Oz]
structure PT(h:AH)(a T W:Nat)(R:List TR)(t:List (List Int))(hz:AH):Prop where
 fM:hz[a]? =some (.row (R.map (fG W)++List.replicate (T-R.length) (AV.sl [] .full)) 30)
 len:R.length=t.length
 wid:∀r∈t,r.length=W
 row:∀(k:Nat) (x:TR) (r:List Int),R[k]? =some x->t[k]? =some r->hz[x.b]? =some (.row (encI r++x.pad) 3)
 nd:(R.map TR.b).Nodup
 na:∀x∈R,x.b≠a
 lo:∀x∈R,h.length<=x.b/\x.b<hz.length
 la:h.length<=a
 kp:∃j,hz=h++j
theorem PT.done{h a T W R t hz}(H:PT h a T W R t hz)(e:R.length=T):nz hz a R W t:=by have:=H.fM;rw[e,Nat.sub_self,List.replicate_zero,List.append_nil]at this;exact⟨this,H.len,H.wid,H.row,H.nd,H.na⟩
theorem PT.add{h a T W R t hz j}(H:PT h a T W R t hz){q c pad r}(hr:r.length=W)(hT:R.length<T)(hj:j[q]? =some (.row (encI r++pad) 3)):
  PT h a T W (R++[⟨hz.length+q,c,pad⟩]) (t++[r]) ((hz++j).set a (.row ((R.map (fG W)++List.replicate (T-R.length) (AV.sl [] .full)).set R.length (.ms (hz.length+q) 0 W c 1)) 30)):=by
 have gV:=(List.getElem?_eq_some_iff.1 H.fM).1;have hq:=(List.getElem?_eq_some_iff.1 hj).1;have arL:T-R.length=(T-(R.length+1))+1:=by omega
 obtain⟨j0,EU⟩:=H.kp;have sA:h.length<=hz.length:=by rw[EU];simp
 refine⟨?_,by simp[H.len],fun s hs=>?_,fun k x s h1 h2=>?_,?_,fun x hx=>?_,fun x hx=>?_,H.la,?_⟩
 .rw[List.getElem?_set_self (by simp;omega),List.set_append_right _ _ (by simp),List.length_map,Nat.sub_self,arL,List.replicate_succ,List.set_cons_zero];simp[fG]
 .rcases List.mem_append.1 hs with hs|hs
  .exact H.wid s hs
  grind
 .by_cases hk:k<R.length
  .rw[List.getElem?_append_left hk]at h1;rw[List.getElem?_append_left (by rw[<-H.len];exact hk)]at h2;have hx:=List.mem_of_getElem? h1;rw[List.getElem?_set_ne (Ne.symm (H.na x hx))];exact eP _ (H.row k x s h1 h2)
  .rw[List.getElem?_append_right (by omega),List.getElem?_singleton]at h1;split at h1
   .cases h1;rw[List.getElem?_append_right (by rw[<-H.len];omega),List.getElem?_singleton,<-H.len]at h2;grind
   .cases h1
 .rw[List.map_append,List.map_singleton];refine List.nodup_append.2 ⟨H.nd,by simp,fun x hx y hy=>?_⟩;rw[List.mem_singleton]at hy;obtain⟨z,hz1,rfl⟩:=List.mem_map.1 hx;have:=(H.lo z hz1).2;subst hy;simp only;omega
 .rcases List.mem_append.1 hx with hx|hx
  .exact H.na x hx
  grind
 .rw[List.length_set,List.length_append];rcases List.mem_append.1 hx with hx|hx
  .have:=H.lo x hx;omega
  grind
 .rw[EU,List.append_assoc,List.set_append_right _ _ H.la];exact⟨_,rfl⟩
theorem arN(Γ W rows h)(hl:rows.length<=1000)(hW:W<=1000)(h0:0<W)(hw:∀r∈rows,r.length=W):
  az Tryz.prog Γ 173 [.sl (bD rows) .free] h fun v h'=>∃a R,v= .ms a 0 rows.length rows.length 1/\PT h a rows.length W R rows h':=by
 refine cS [.tmp 2] Tryz.func173 ?_;simp(disch:=omega) only[go_sem,seval,jG];refine⟨by omega,by omega,by omega,?_⟩;refine y2 (β:=AH×List TR) rows [3,9,10,11] (fun ae _=>[(3,.ms h.length 0 rows.length rows.length 1),(9,.sl (bD rows) .free),(10,.int .i64 rows.length),(11,.int .i64 ae.length)]) (fun b=>b.1)
  (fun ae _ b=>PT h h.length rows.length W b.2 ae b.1) (h++[.row (kL rows.length [.sl [] .full]) 30],[]) rfl rfl ?_ (fun ae x r b hd H=>?_) (fun b H=>?_)
 .refine⟨?_,rfl,by simp,by simp,by simp,by simp,by simp,Nat.le_refl _,⟨_,rfl⟩⟩;simp[kL]
 .obtain⟨hz,R⟩:=b;dsimp only at H|-;have rN:ae.length<rows.length:=by rw[hd];simp
  have Lj:R.length=ae.length:=H.len;have hx:x∈rows:=by rw[hd];simp
  have Pq:=hw x hx;have ex:(bD rows)[ae.length]? =some (.sl (encI x) .free):=by rw[hd];exact G_ ae r x
  refine cI ?_;refine cI ?_;refine bu (aJ.pos (by omega)) ?_;refine fR (jZ ?_);refine eQ ?_;simp(disch:=omega) only[go_sem,seval,ex];refine gR ?_;refine az.mono (abp Γ x hz (by omega) (fun e=>by rw[e]at Pq;simp at Pq;omega)) ?_;rintro _ h' ⟨j,q,c,pad,rfl,rfl,hj⟩;have gt:(hz++j)[h.length]? =some (.row (R.map (fG W)++List.replicate (rows.length-R.length) (AV.sl [] .full)) 30):=eP _ H.fM;have:=H.add (q:=q) (c:=c) Pq (by omega) hj;rw[Lj]at this gt;rw[Pq];refine aU ?_;refine⟨by omega,?_⟩;simp(disch:=omega) only[go_sem,seval,gt];refine⟨by simp;omega,?_⟩;refine gR ?_;refine cd (_,R++[⟨hz.length+q,c,pad⟩]) this ?_ ?_
  .simp;rfl
  .rw[Nat.zero_add,Nat.mul_one]
 .obtain⟨hz,R⟩:=b;dsimp only at H|-;refine cI ?_;refine cI ?_;refine bu (bw.keep [3]) ?_;refine gR ?_;exact⟨h.length,R,rfl,H⟩
def tj(rows:List (List Int))(more:List Int):List (List Int):=more.zipIdx.map fun p=>rows.map (fun r=>r.getD p.2 0)++[p.1]
theorem Hs(rows more):(tj rows more).length=more.length:=by simp[tj]
theorem aeB{rows more k n}(h:more[k]? =some n):(tj rows more)[k]? =some (rows.map (fun r=>r.getD k 0)++[n]):=by simp[tj,h]
theorem arO{rows more d}(hd:more.length=d)(hw:∀r∈rows,r.length=d)(k i):kT (tj rows more) k i=if k<d then(if i<rows.length then kT rows i k else if i=rows.length then kR more k else 0)else 0:=by
 by_cases hk:k<d
 .rw[if_pos hk,si (aeB (List.getElem?_eq_getElem (by omega))),kR,List.getD_eq_getElem?_getD];by_cases hi:i<rows.length
  .rw[if_pos hi,List.getElem?_append_left (by simpa using hi),List.getElem?_map,List.getElem?_eq_getElem hi,si (List.getElem?_eq_getElem hi)];rfl
  .rw[if_neg hi,List.getElem?_append_right (by simpa using hi),List.length_map];by_cases e:i=rows.length
   .subst e;rw[if_pos rfl,Nat.sub_self,kR,List.getD_eq_getElem?_getD,show more[k]? =some more[k]from List.getElem?_eq_getElem (by omega)];rfl
   .rw[if_neg e,List.getElem?_eq_none (by simp;omega)];rfl
 .rw[if_neg hk,Hn (by rw[Hs];omega)]
def Ht(x:Int):List AV:=[.int .i64 x]
theorem aeC(l):l.flatMap Ht=encI l:=by
 induction l with
 |nil=>rfl
 |cons x l ih=>rw[List.flatMap_cons,ih];rfl
structure HM(h:AH)(a T W:Nat)(R:List TR)(t:List (List Int))(l:List Int)(u v:AV)(hz:AH):Prop where
 fM:hz[a]? =some (.row (R.map (fG W)++u::List.replicate (T-R.length-1) (.sl [] .full)) 30)
 len:R.length=t.length
 wid:∀r∈t,r.length=W
 row:∀(k:Nat) (x:TR) (r:List Int),R[k]? =some x->t[k]? =some r->hz[x.b]? =some (.row (encI r++x.pad) 3)
 nd:(R.map TR.b).Nodup
 na:∀x∈R,x.b≠a
 lo:∀x∈R,h.length<=x.b/\x.b<hz.length
 la:h.length<=a
 kp:∃j,hz=h++j
 own:∃q,((v= .sl [] .full/\l=[]/\q=hz.length)\/za Ht 1 0 q hz 3 v l)/\h.length<=q/\q≠a/\∀x∈R,x.b≠q
theorem PT.half{h a T W R t hz}(H:PT h a T W R t hz)(hT:R.length<T):HM h a T W R t [] (.sl [] .full) (.sl [] .full) hz:=by
 have gV:=(List.getElem?_eq_some_iff.1 H.fM).1;refine⟨?_,H.len,H.wid,H.row,H.nd,H.na,H.lo,H.la,H.kp,⟨hz.length,.inl ⟨rfl,rfl,rfl⟩,?_,by omega,fun x hx=>?_⟩⟩
 .rw[H.fM,show T-R.length=(T-R.length-1)+1 by omega,List.replicate_succ];simp
 .obtain⟨j,hj⟩:=H.kp;rw[hj];simp
 .have:=(H.lo x hx).2;omega
theorem HM.app{h a T W R t l u v hz}(H:HM h a T W R t l u v hz)(x)(hl:l.length<=1000){o z Q}
  (HQ:∀v' oF,HM h a T W R t (l++[x]) u v' oF->Q v' oF):uH (some (1,8,z,3)) v (.sl [.int .i64 x] o) hz Q:=by
 obtain⟨q,hq,q1,q2,q3⟩:=H.own;obtain⟨j0,EU⟩:=H.kp;have gV:=(List.getElem?_eq_some_iff.1 H.fM).1;have:=SO (enc:=Ht) (n:=1) (l:=l) (l2:=[x]) (v:=v) (x:= .sl [.int .i64 x] o) (ys:=[.int .i64 x]) (h:=[]) (j:=hz) (q:=q) (T:=3) (by_:=8) (z:=z) (Q:=Q) (fun _=>rfl) (by decide) ?_ rfl (db.int [x]) rfl rfl (by simp) (by simp;omega) (by simp;omega) fun v' q' j' ho j7 hk A4 hr=>?_
 .exact this
 .grind
 .rw[List.nil_append];have sA:h.length<=hz.length:=by rw[EU];simp
  refine HQ v' j' ⟨(hk a gV (Ne.symm q2)).trans H.fM,H.len,H.wid,fun k y r e1 e2=>(hk _ (H.lo y (List.mem_of_getElem? e1)).2 (q3 y (List.mem_of_getElem? e1))).trans (H.row k y r e1 e2),H.nd,H.na,fun y hy=>⟨(H.lo y hy).1,Nat.lt_of_lt_of_le (H.lo y hy).2 j7⟩,H.la,⟨j'.drop h.length,?_⟩,q',.inr ho,?_,?_,fun y hy=>?_⟩
  .have:j'.take h.length=h:=List.ext_getElem? fun i=>by grind
   conv=>lhs;rw[<-List.take_append_drop h.length j',this]
  .rcases A4 with rfl|e<;>omega
  .rcases A4 with rfl|e<;>omega
  .rcases A4 with rfl|e
   .exact q3 y hy
   .have:=(H.lo y hy).2;omega
theorem HM.cell{h a T W R t l u v hz}(H:HM h a T W R t l u v hz):HM h a T W R t l v v (hz.set a (.row ((R.map (fG W)++u::List.replicate (T-R.length-1) (.sl [] .full)).set R.length v) 30)):=by
 have gV:=(List.getElem?_eq_some_iff.1 H.fM).1;obtain⟨q,hq,q1,q2,q3⟩:=H.own;obtain⟨j0,EU⟩:=H.kp;refine⟨?_,H.len,H.wid,fun k y r e1 e2=>?_,H.nd,H.na,fun y hy=>by rw[List.length_set];exact H.lo y hy,H.la,?_,q,?_,q1,q2,q3⟩
 .simp_all
 .rw[List.getElem?_set_ne (Ne.symm (H.na y (List.mem_of_getElem? e1)))];exact H.row k y r e1 e2
 .rw[EU,List.set_append_right _ _ H.la];exact⟨_,rfl⟩
 .rcases hq with⟨e1,e2,e3⟩|⟨c,pad,e1,e2,e3,e4⟩
  .grind
  .exact .inr ⟨c,pad,e1,by grind,e3,e4⟩
theorem HM.done{h a T W R t l v hz}(H:HM h a T W R t l v v hz)(hl:l.length=W)(h0:0<W)(hT:R.length<T):∃x,PT h a T W (R++[x]) (t++[l]) hz:=by
 obtain⟨q,hq,q1,q2,q3⟩:=H.own;rcases hq with⟨_,e2,_⟩|⟨c,pad,e1,e2,e3,e4⟩
 .rw[e2]at hl;simp at hl;omega
 rw[Nat.zero_add]at e1;subst e1;have sB:=(List.getElem?_eq_some_iff.1 e2).1;refine⟨⟨q,c,pad⟩,?_,by simp[H.len],fun s hs=>?_,fun k x s h1 h2=>?_,?_,fun x hx=>?_,fun x hx=>?_,H.la,H.kp⟩
 .have:=H.fM;rw[this,List.map_append,List.append_assoc,List.length_append,List.length_singleton,Nat.sub_sub];simp[fG,hl]
 .rcases List.mem_append.1 hs with hs|hs
  .exact H.wid s hs
  grind
 .by_cases hk:k<R.length
  .rw[List.getElem?_append_left hk]at h1;rw[List.getElem?_append_left (by rw[<-H.len];exact hk)]at h2;exact H.row k x s h1 h2
  .rw[List.getElem?_append_right (by omega),List.getElem?_singleton]at h1;split at h1
   .cases h1;rw[List.getElem?_append_right (by rw[<-H.len];omega),List.getElem?_singleton,<-H.len]at h2;rename_i e;rw[if_pos e]at h2;cases h2;rw[e2,cR,aeC]
   .cases h1
 .rw[List.map_append,List.map_singleton];refine List.nodup_append.2 ⟨H.nd,by simp,fun x hx y hy=>?_⟩;grind
 .rcases List.mem_append.1 hx with hx|hx
  .exact H.na x hx
  grind
 .rcases List.mem_append.1 hx with hx|hx
  .exact H.lo x hx
  grind
theorem arP(Γ rows more h)(hl:rows.length<=900)(hm:more.length<=900)(hw:∀r∈rows,r.length=more.length):
  az Tryz.prog Γ 171 [.sl (bD rows) .free,.sl (encI more) .free] h fun v h'=>∃a R,v= .ms a 0 more.length more.length 1/\PT h a more.length (rows.length+1) R (tj rows more) h':=by
 refine tO [.tmp 4] Tryz.func171 ?_;refine bw.Ry (by decide) ?_;refine cI ?_;refine eQ ?_;simp(disch:=omega) only[go_sem,seval,cc];refine⟨by omega,by omega,by omega,?_⟩;refine fR ?_;refine eQ ?_;simp(disch:=omega) only[go_sem,seval,cc];refine jZ ?_;refine y2 (β:=AH×List TR) more [0,5,13,14,15,1000001] (fun ae _=>[(0,.sl (bD rows) .free),(5,.ms h.length 0 more.length more.length 1),(13,.sl (encI more) .free),(14,.int .i64 more.length),(15,.int .i64 ae.length),(1000001,.tuple [])]) (fun b=>b.1)
  (fun ae _ b=>PT h h.length more.length (rows.length+1) b.2 ((tj rows more).take ae.length) b.1) (h++[.row (kL more.length [.sl [] .full]) 30],[]) rfl rfl ?_ (fun ae n r b hd H=>?_) (fun b H=>?_)
 .refine⟨?_,rfl,by simp,by simp,by simp,by simp,by simp,Nat.le_refl _,⟨_,rfl⟩⟩;simp[kL]
 .obtain⟨hz,R⟩:=b;dsimp only at H|-;have rN:ae.length<more.length:=by rw[hd];simp
  have hn:more[ae.length]? =some n:=by rw[hd];simp
  have Lj:R.length=ae.length:=by rw[H.len,List.length_take,Hs];omega
  refine cI ?_;refine cI ?_;refine bu (aJ.pos (by omega)) ?_;refine fR (jZ ?_);refine eQ ?_;simp(disch:=omega) only[go_sem,seval,xO hn];refine fR ?_;refine eQ ?_;simp(disch:=omega) only[go_sem,seval,jG];refine jZ ?_;refine y2 (β:=AV×AH) rows [0,5,6,7,13,14,15,20,21,22,1000001] (fun d _=>[(0,.sl (bD rows) .free),(5,.ms h.length 0 more.length more.length 1),(6,.int .i64 ae.length),(7,.int .i64 n),(13,.sl (encI more) .free),(14,.int .i64 more.length),(15,.int .i64 ae.length),(20,.sl (bD rows) .free),(21,.int .i64 rows.length),(22,.int .i64 d.length),(1000001,.tuple [])]) (fun b=>b.2)
   (fun d _ b=>HM h h.length more.length (rows.length+1) R ((tj rows more).take ae.length) (d.map fun r=>r.getD ae.length 0) b.1 b.1 b.2) (.sl [] .full,hz) rfl rfl (H.half (by omega)) (fun d x r2 b dr HH=>?_) (fun b HH=>?_)
  .obtain⟨v,hy⟩:=b;dsimp only at HH|-;have aCE:d.length<rows.length:=by rw[dr];simp
   have ex:(bD rows)[d.length]? =some (.sl (encI x) .free):=by rw[dr];exact G_ d r2 x
   have hxw:=hw x (by rw[dr];simp);have exk:(encI x)[ae.length]? =some (.int .i64 (x.getD ae.length 0)):=xO (by grind);refine cI ?_;refine cI ?_;refine bu (aJ.pos (by omega)) ?_;refine fR (jZ ?_);refine eQ ?_;simp(disch:=omega) only[go_sem,seval,ex];have hc:(R.map (fG (rows.length+1))++v::List.replicate (more.length-R.length-1) (AV.sl [] .full)).drop ae.length=v::List.replicate (more.length-R.length-1) (AV.sl [] .full):=by rw[<-Lj];simp
   have gt:=HH.fM;refine bu (bw.keep [0,5,6,7,9,13,14,15,20,21,22,1000001]) ?_;obtain⟨mV,tm⟩:∃mV:Tm,mV=[(0,.sl (bD rows) .free),(5,.ms h.length 0 more.length more.length 1),(6,.int .i64 ae.length),(7,.int .i64 n),(9,.sl (encI x) .free),(13,.sl (encI more) .free),(14,.int .i64 more.length),(15,.int .i64 ae.length),(20,.sl (bD rows) .free),(21,.int .i64 rows.length),(22,.int .i64 d.length),(1000001,.tuple [])]:=⟨_,rfl⟩;rw[<-tm];obtain⟨val,c_⟩:∃val:Nat->AV,val=fun q=>[.ms h.length 0 more.length more.length 1,.int .i64 ae.length,.ms h.length 0 more.length more.length 1,.int .i64 ae.length,.ptr (some (h.length,ae.length)),v,.sl (encI x) .free,.int .i64 ae.length,.bS [.int .i64 (x.getD ae.length 0)],.int .i64 (x.getD ae.length 0),.sl [.int .i64 (x.getD ae.length 0)] .full,.top,.ptr (some (h.length,ae.length))].getD q .top:=⟨_,rfl⟩;obtain⟨LL,hLL⟩:∃LL:List Int,LL=(d.map fun r=>r.getD ae.length 0)++[x.getD ae.length 0]:=⟨_,rfl⟩;obtain⟨Iv,lz⟩:∃Iv:List Nat->Tm->AH->Prop,Iv=fun done σ h'=>(∀t,t<26\/39<t->lk σ t=lk mV t)/\(∀i∈done,i<13->i≠11->lk σ (26+i)=val i)/\(if 13∈done then∃v',HM h h.length more.length (rows.length+1) R ((tj rows more).take ae.length) LL v' v' h' else if 11∈done then HM h h.length more.length (rows.length+1) R ((tj rows more).take ae.length) LL v (lk σ 37) h' else h'=hy):=⟨_,rfl⟩;have ki:∀(i:Nat) (done:List Nat) (σ:Tm) (h':AH) (u:AV) (t:Nat),i<13->i≠11->t=26+i->u=val i->Iv done σ h'->i∉done->Iv (i::done) (put (some t) u σ) h':=fun i done σ h' u t hi DW ht hu hI dy=>by
    subst hu ht;rw[lz]at hI|-;obtain⟨a1,a8,a9⟩:=hI;refine⟨fun t ht=>(kU (by omega) _ _).trans (a1 t ht),fun j hj h1 h2=>?_,?_⟩
    .rcases List.mem_cons.1 hj with rfl|hj
     .rw[y_]
     .have qu:j≠i:=fun e=>dy (e▸hj);rw[kU (by omega)];exact a8 j hj h1 h2
    .have e9:(13∈i::done)<->13∈done:=by simp;omega
     have e7:(11∈i::done)<->11∈done:=by simp;omega
     simp only[e9,e7];rw[kU (by omega)];exact a9
   refine N7 [[],[],[],[],[2,3],[4],[],[],[6,7],[8],[9],[5,10],[0,1],[11,12]] Iv Ty.mixed (by kernel_rfl) (by kernel_rfl) (by kernel_rfl) ?_ ?_ ?_
   .grind
   .intro i op ho done σ h' hI dr dG dy C hC;have gT:=hI;rw[lz]at hI;obtain⟨a1,a8,a9⟩:=hI;have a5:lk σ 5= .ms h.length 0 more.length more.length 1:=(a1 5 (by omega)).trans (by rw[tm];rfl);have a6:lk σ 6= .int .i64 ae.length:=(a1 6 (by omega)).trans (by rw[tm];rfl);have a9x:lk σ 9= .sl (encI x) .free:=(a1 9 (by omega)).trans (by rw[tm];rfl);have Ps:mB σ=true:=by rw[mB,a1 1000001 (by omega),tm];rfl
    have Pt:mF σ=false:=by rw[mF,a1 1000000 (by omega),tm];rfl
    rcases i with _|_|_|_|_|_|_|_|_|_|_|_|_|_|i;all_goals simp only[List.getElem?_toArray,List.getElem?_cons_zero,List.getElem?_cons_succ,Option.some.injEq,List.getElem?_nil,reduceCtorEq,Nat.zero_add,Nat.reduceAdd]at ho
    all_goals subst ho
    all_goals rw[AP]
    .simp(disch:=omega) only[go_sem,seval,a5];grind
    .simp(disch:=omega) only[go_sem,seval,a6];exact hC _ _ (ki 1 done σ _ _ _ (by omega) (by omega) rfl (by rw[c_];rfl) gT dy)
    .simp(disch:=omega) only[go_sem,seval,a5];exact hC _ _ (ki 2 done σ _ _ _ (by omega) (by omega) rfl (by rw[c_];rfl) gT dy)
    .simp(disch:=omega) only[go_sem,seval,a6];exact hC _ _ (ki 3 done σ _ _ _ (by omega) (by omega) rfl (by rw[c_];rfl) gT dy)
    .have v2:lk σ 28=_:=(a8 2 (dr 2 (by decide)) (by omega) (by omega)).trans (by rw[c_];rfl:val 2= .ms h.length 0 more.length more.length 1);have v3:lk σ 29=_:=(a8 3 (dr 3 (by decide)) (by omega) (by omega)).trans (by rw[c_];rfl:val 3= .int .i64 ae.length);simp(disch:=omega) only[go_sem,seval,v2,v3,Nat.zero_add,Nat.mul_one,Int.toNat_natCast];refine⟨by omega,?_⟩;exact hC _ _ (ki 4 done σ _ _ _ (by omega) (by omega) rfl (by rw[c_];rfl) gT dy)
    .have v4:lk σ 30=_:=(a8 4 (dr 4 (by decide)) (by omega) (by omega)).trans (by rw[c_];rfl:val 4= .ptr (some (h.length,ae.length)));have DW:11∉done:=fun e=>dy (dG 11 e 5 (by decide));have qy:13∉done:=fun e=>DW (dG 13 e 11 (by decide));rw[if_neg qy,if_neg DW]at a9;subst a9;simp(disch:=omega) only[go_sem,seval,v4,gt,hc];exact hC _ _ (ki 5 done σ _ _ _ (by omega) (by omega) rfl (by rw[c_];rfl) gT dy)
    .simp(disch:=omega) only[go_sem,seval,a9x];exact hC _ _ (ki 6 done σ _ _ _ (by omega) (by omega) rfl (by rw[c_];rfl) gT dy)
    .simp(disch:=omega) only[go_sem,seval,a6];exact hC _ _ (ki 7 done σ _ _ _ (by omega) (by omega) rfl (by rw[c_];rfl) gT dy)
    .have v6:lk σ 32=_:=(a8 6 (dr 6 (by decide)) (by omega) (by omega)).trans (by rw[c_];rfl:val 6= .sl (encI x) .free);have v7:lk σ 33=_:=(a8 7 (dr 7 (by decide)) (by omega) (by omega)).trans (by rw[c_];rfl:val 7= .int .i64 ae.length);simp(disch:=omega) only[go_sem,seval,v6,v7,exk];exact hC _ _ (ki 8 done σ _ _ _ (by omega) (by omega) rfl (by rw[c_];rfl) gT dy)
    .have v8:lk σ 34=_:=(a8 8 (dr 8 (by decide)) (by omega) (by omega)).trans (by rw[c_];rfl:val 8= .bS [.int .i64 (x.getD ae.length 0)]);simp(disch:=omega) only[go_sem,seval,v8];exact hC _ _ (ki 9 done σ _ _ _ (by omega) (by omega) rfl (by rw[c_];rfl) gT dy)
    .have v9:lk σ 35=_:=(a8 9 (dr 9 (by decide)) (by omega) (by omega)).trans (by rw[c_];rfl:val 9= .int .i64 (x.getD ae.length 0));simp(disch:=omega) only[go_sem,seval,v9,Pt];exact hC _ _ (ki 10 done σ _ _ _ (by omega) (by omega) rfl (by rw[c_];rfl) gT dy)
    .have v5:lk σ 31=_:=(a8 5 (dr 5 (by decide)) (by omega) (by omega)).trans (by rw[c_];rfl:val 5=v);have v10:lk σ 36=_:=(a8 10 (dr 10 (by decide)) (by omega) (by omega)).trans (by rw[c_];rfl:val 10= .sl [.int .i64 (x.getD ae.length 0)] .full);have qy:13∉done:=fun e=>dy (dG 13 e 11 (by decide));rw[if_neg qy,if_neg dy]at a9;subst a9;simp(disch:=omega) only[go_sem,seval,v5,v10,Ps];refine HH.app _ (by simp;omega) fun v' oF H2=>hC _ _ ?_;rw[lz];refine⟨fun t ht=>(kU (by omega) _ _).trans (a1 t ht),fun j hj h1 h2=>?_,?_⟩
     .rcases List.mem_cons.1 hj with rfl|hj
      .exact absurd rfl h2
      .rw[kU (by omega)];exact a8 j hj h1 h2
     .rw[if_neg (by simp[qy]),if_pos (by simp),y_,hLL];exact H2
    .have v0:lk σ 26=_:=(a8 0 (dr 0 (by decide)) (by omega) (by omega)).trans (by rw[c_];rfl:val 0= .ms h.length 0 more.length more.length 1);have v1:lk σ 27=_:=(a8 1 (dr 1 (by decide)) (by omega) (by omega)).trans (by rw[c_];rfl:val 1= .int .i64 ae.length);simp(disch:=omega) only[go_sem,seval,v0,v1,Nat.zero_add,Nat.mul_one,Int.toNat_natCast];refine⟨by omega,?_⟩;exact hC _ _ (ki 12 done σ _ _ _ (by omega) (by omega) rfl (by rw[c_];rfl) gT dy)
    .have v12:lk σ 38=_:=(a8 12 (dr 12 (by decide)) (by omega) (by omega)).trans (by rw[c_];rfl:val 12= .ptr (some (h.length,ae.length)));rw[if_neg dy,if_pos (dr 11 (by decide))]at a9;obtain⟨q',⟨_,e,_⟩|⟨c',arS,e37,-,-,-⟩,-⟩:=a9.own
     .rw[hLL]at e;simp at e
     have Lk:=a9.fM;have H3:=a9.cell;rw[e37]at H3;simp(disch:=omega) only[go_sem,seval,v12,e37,Lk,Nat.zero_add];refine⟨by simp;omega,hC _ _ ?_⟩;rw[lz];refine⟨a1,fun j hj h1 h2=>?_,?_⟩
     .rcases List.mem_cons.1 hj with rfl|hj
      .omega
      .exact a8 j hj h1 h2
     .rw[if_pos (by simp)];grind
   .intro done σ h' kK hI;rw[lz]at hI;obtain⟨a1,-,a9⟩:=hI;rw[if_pos (kK 13 (by decide))]at a9;obtain⟨v',H2⟩:=a9;refine aU ?_;refine bw.keep [0,5,6,7,13,14,15,20,21,22,1000001] ?_;have hk:keep [0,5,6,7,13,14,15,20,21,22,1000001] σ=[(0,.sl (bD rows) .free),(5,.ms h.length 0 more.length more.length 1),(6,.int .i64 ae.length),(7,.int .i64 n),(13,.sl (encI more) .free),(14,.int .i64 more.length),(15,.int .i64 ae.length),(20,.sl (bD rows) .free),(21,.int .i64 rows.length),(22,.int .i64 d.length),(1000001,.tuple [])]:=by simp only[keep,List.map_cons,List.map_nil,a1 0 (by omega),a1 5 (by omega),a1 6 (by omega),a1 7 (by omega),a1 13 (by omega),a1 14 (by omega),a1 15 (by omega),a1 20 (by omega),a1 21 (by omega),a1 22 (by omega),a1 1000001 (by omega),tm];rfl
    rw[hk];refine gR ?_;refine cd (v',h') ?_ ?_ rfl
    .grind
    .simp;rfl
  .obtain⟨v,hy⟩:=b;dsimp only at HH|-;have hc:(R.map (fG (rows.length+1))++v::List.replicate (more.length-R.length-1) (AV.sl [] .full)).drop ae.length=v::List.replicate (more.length-R.length-1) (AV.sl [] .full):=by rw[<-Lj];simp
   have gt:=HH.fM;refine cI ?_;refine cI ?_;refine bu (bw.keep [0,5,6,7,13,14,15,1000001]) ?_;refine gO ?_;simp(disch:=omega) only[go_sem,seval,gt,Nat.zero_add,Nat.mul_one,Int.toNat_natCast,hc];refine⟨by omega,?_⟩;refine HH.app n (by simp;omega) fun v' oF H2=>?_;have H2o:=H2.own;obtain⟨q',⟨_,e,_⟩|⟨c',arS,rfl,-,-,-⟩,-⟩:=H2o
   .simp at e
   have Lk:=H2.fM;have H3:=H2.cell;obtain⟨y,H4⟩:=H3.done (by simp) (by omega) (by omega);rw[Lj]at H4;simp(disch:=omega) only[go_sem,seval,Lk,Nat.zero_add,Nat.mul_one,Int.toNat_natCast];refine⟨by omega,by simp;omega,?_⟩;refine gR ?_;have et:(tj rows more).take (ae++[n]).length=(tj rows more).take ae.length++[(rows.map fun r=>r.getD ae.length 0)++[n]]:=by rw[List.length_append,List.length_singleton,List.take_add_one,aeB hn];rfl
   rw[<-et]at H4;refine cd (_,R++[y]) H4 ?_ ?_
   .simp;rfl
   grind
 .obtain⟨hz,R⟩:=b;dsimp only at H|-;refine cI ?_;refine cI ?_;refine bu (bw.keep [5]) ?_;refine gR ?_;refine⟨h.length,R,rfl,?_⟩;rwa [<-Hs rows more,List.take_length,Hs]at H
theorem Pu(Γ i h):nR Tryz.prog Γ 169 [.ptr (some (i,0))] h none fun h'=>h'=h:=by refine F9 none (fun q e=>by cases e) Tryz.func169 rfl rfl rfl rfl rfl Ty.mixed (by kernel_rfl) (by kernel_rfl) ?_;rw[xK];exact dL
theorem arU{d rows t}(hr:∀r∈rows,yc d r)(ht:yc d t):∀r∈tj rows t,∀x∈r,0<=x/\x<1073741789:=fun r h x hx=>by
 obtain⟨⟨n,k⟩,hp,rfl⟩:=List.mem_map.1 h;rcases List.mem_append.1 hx with hx|hx
 .obtain⟨s,hs,rfl⟩:=List.mem_map.1 hx;rw[List.getD_eq_getElem?_getD];cases e:s[k]? with
  |none=>decide
  |some y=>exact(hr s hs).2 y (List.mem_of_getElem? e)
 .rw[List.mem_singleton]at hx;subst hx;exact ht.2 _ (List.fst_mem_of_mem_zipIdx hp)
theorem arV{rows t}(hw:∀r∈rows,r.length=t.length):kT (tj rows t)=eqs (kT rows) rows.length (kR t):=by
 funext k i;rw[arO rfl hw,eqs];by_cases hk:k<t.length
 .rw[if_pos hk];by_cases hi:i<rows.length
  .rw[if_pos hi,if_neg (by omega)]
  .rw[if_neg hi];split
   .rfl
   .rw[Hn (by omega)]
 .rw[if_neg hk];split
  .rw[Hm (by omega)]
  .by_cases hi:i<rows.length
   .rw[si (List.getElem?_eq_getElem hi),Hm (by grind)]
   .rw[Hn (by omega)]
theorem Ll{h h2:AH}(k:∀i<h.length,h2[i]? =h[i]?):∃j,h2=h++j:=by
 refine⟨h2.drop h.length,?_⟩;have:h2.take h.length=h:=List.ext_getElem? fun i=>by grind
 conv=>lhs;rw[<-List.take_append_drop h.length h2,this]
theorem Pv(n):kL n [.int .i64 0]=encI (List.replicate n 0):=by
 induction n with
 |zero=>rfl
 |succ n ih=>rw[List.replicate_succ];simp only[kL,encI,List.replicate_succ,List.flatten_cons,List.map_cons]at ih|-;simp[ih]
theorem Vg{p}{k x:Nat}(h:p[k]? =some x):(dQ p)[k]? =some (.int .i64 x):=by simp[dQ,encI,h]
theorem aeF{l:List Int}{k}(h:k<l.length):l.getD k 0∈l:=by grind
theorem arW(Γ d rows t h)(hd:d<=64)(h0:0<d)(hr:∀r∈rows,yc d r)(hl:rows.length<=64)(ht:yc d t):
  az Tryz.prog Γ 113 [.sl (bD rows) .free,.sl (encI t) .free] h fun v h'=>∃j,h'=h++j/\((K6 (kT rows) rows.length d (kR t)/\∃(q:Nat) (y:List Int),y.length=rows.length/\j[q]? =some (.row (encI y) 3)/\v= .tuple [.ms (h.length+q) 0 rows.length rows.length 1,.bool true,.int .i64 0])\/(Sep (kT rows) rows.length d (kR t)/\v= .tuple [.sl [] .full,.bool false,.int .i64 0])):=by
 refine bu (D8 (rs:=[.tmp 4,.tmp 5,.cell 6 31]) (h.length+1) 113 Tryz.func113 rfl rfl rfl rfl (by kernel_rfl) (by kernel_rfl) (by kernel_rfl)) ?_;refine dq.of ((ad_ Γ d rows t _ hd hr hl ht).mono ?_);rintro _ _ rfl;simp(disch:=omega) only[go_sem,seval,jG];have hw:∀r∈rows,r.length=t.length:=fun r h=>by rw[(hr r h).1,ht.1]
 refine dq.of ((arP Γ rows t _ (by omega) (by rw[ht.1];omega) hw).mono ?_);rintro _ h1 ⟨a,R,rfl,P1⟩;obtain⟨j1,rfl⟩:=P1.kp;have hT:=P1.done (by rw[P1.len,Hs]);refine aU ?_;have hTl:=hT.len;rw[Hs]at hTl;refine dq.of ((aen Γ _ a t.length (rows.length+1) t.length rows.length R (tj rows t) (hT.keep fun i ob e _=>by simpa using e) hTl (by rw[ht.1];omega) (by omega) (by omega) (arU hr ht)).mono ?_);rintro _ h2 ⟨p,o,R',t',rfl,S⟩;have ko:(dQ p).length=p.length:=by simp[dQ,encI]
 have arX:=S.red.le;simp(disch:=omega) only[go_sem,seval,ko];refine⟨rfl,by omega,by omega,by omega,by omega,by simp,?_⟩;refine aU ?_;have oJ:=ht.1;have Ho:R'.length=t.length:=S.len;have arY:t'.length=t.length:=by rw[<-S.fM.len];exact Ho
 obtain⟨off,arZ,ar0⟩:∃off,off=(if(t.length:Int)=p.length then 0 else 0+p.length*1)/\(p.length<t.length->off=p.length):=⟨_,rfl,fun h=>by rw[if_neg (by omega)];omega⟩;rw[<-arZ];have row:∀i,i<t.length->∃x q r,R'[i]? =some x/\t'[i]? =some q/\(R'.map (fG (rows.length+1))).drop i= .ms x.b 0 (rows.length+1) x.c 1::r/\h2[x.b]? =some (.row (encI q++x.pad) 3)/\(∃z,(encI q++x.pad).drop rows.length= .int .i64 (q.getD rows.length 0)::z)/\kT t' i rows.length=kI (q.getD rows.length 0):=fun i hi=>by have e1:R'[i]? =some R'[i]:=List.getElem?_eq_getElem (by omega);have e2:t'[i]? =some t'[i]:=List.getElem?_eq_getElem (by omega);obtain⟨r,hr⟩:=S.fM.cell e1;have hw:=S.fM.wid _ (List.mem_of_getElem? e2);exact⟨_,_,r,e1,e2,hr,S.fM.row _ _ _ e1 e2,rowAt (by grind) _,by rw[si e2];rfl⟩
 have cV:∀i,i<=h.length->i≠a/\∀x∈R,i≠x.b:=fun i hi=>⟨by have:=P1.la;simp at this;omega,fun x hx=>by have:=(P1.lo x hx).1;simp at this;omega⟩;have g6:h2[h.length]? =some (.row [.int .i64 0] 31):=S.kp _ _ (by simp) (cV _ (Nat.le_refl _)).1 (cV _ (Nat.le_refl _)).2;have lB:∃j,h2=h++j:=Ll fun i hi=>by rw[List.getElem?_eq_getElem hi];exact S.kp _ _ (by simp[List.getElem?_append,hi]) (cV i (by omega)).1 (cV i (by omega)).2
 have zE:=S.red;rw[arV hw,oJ]at zE;refine D6 (B:=h.length+1) (β:=Unit) (List.range (t.length-p.length)) [4,5,6,7,8,9,28,29,30] (fun ae _=>[(4,.sl [] .full),(5,.bool false),(6,.ptr (some (h.length,0))),(7,.int .i64 rows.length),(8,.ms a 0 t.length t.length 1),(9,.sl (dQ p) o),(28,.ms a off (t.length-p.length) (t.length-p.length) 1),(29,.int .i64 (t.length-p.length:Nat)),(30,.int .i64 ae.length)]) (fun _=>h2) (fun ae _ _=>∀i<ae.length,kT t' (p.length+i) rows.length=0) () ?_ rfl (by simp) (by kernel_rfl) (fun ae x r _ dr hI=>?_) (fun _ hI=>?_)
 .exact dL
 .have rN:p.length+ae.length<t.length:=by have:=congrArg List.length dr;simp at this;omega
  have ho:=ar0 (by omega);obtain⟨x,q,r2,q1,q2,q3,q4,⟨z,q5⟩,q6⟩:=row _ rN;refine aU ?_;refine aJ.pos (by omega) ?_;simp(disch:=omega) only[go_sem,seval,S.fM.fM,ho,Nat.mul_one,q3];refine⟨by omega,?_⟩;simp(disch:=omega) only[go_sem,seval,q4,Nat.zero_add,q5];refine⟨by omega,?_⟩;refine aJ.intro (fun hz=>?_) (fun hz=>?_)
  .refine aU ?_;refine cd () (fun i hi=>?_) (by rw[List.length_append,List.length_singleton];rfl) rfl;by_cases e:i<ae.length
   .exact hI i e
   .rw[show i=ae.length by simp at hi;omega,q6,hz];rfl
  .simp(disch:=omega) only[go_sem,seval,g6];refine lR (Pu Γ _ _) ?_;rintro _ rfl;have Bk:h2.set h.length (.row [.int .i64 0] 31)=h2:=ph g6;simp(disch:=omega) only[go_sem,seval,Bk,g6];obtain⟨j,hj⟩:=lB;exact⟨j,hj,.inr (aqS zE (k:=p.length+ae.length) (by omega) (by omega) (by rw[q6,ne_eq,Pd (S.rg q (List.mem_of_getElem? q2) _ (aeF (by grind)))];exact hz))⟩
 .refine aU ?_;refine bu (aJ.neg (by simp)) ?_;have Vh:K6 (kT rows) rows.length d (kR t):=aqN zE fun k h1 h2=>by have:=hI (k-p.length) (by simp;omega);rwa [show p.length+(k-p.length)=k by omega]at this
  refine ee.keep [4,5,6,7,8,9] (pq (B:=h.length+1) _ _ _ _ (by kernel_rfl) ?_);refine aU ?_;refine⟨by omega,by omega,by omega,?_⟩;rw[Pv];refine D6 (B:=h.length+1) (β:=List Int) p [4,5,6,7,8,42,43,44] (fun ae _=>[(4,.ms h2.length 0 rows.length rows.length 1),(5,.bool false),(6,.ptr (some (h.length,0))),(7,.int .i64 rows.length),(8,.ms a 0 t.length t.length 1),(42,.sl (dQ p) o),(43,.int .i64 p.length),(44,.int .i64 ae.length)]) (fun y=>h2++[.row (encI y) 3]) (fun _ _ y=>y.length=rows.length) (List.replicate rows.length 0) ?_ rfl (by simp) (by kernel_rfl) (fun ae c r y dr hy=>?_) (fun y hy=>?_)
  .simp(disch:=omega) only[go_sem,seval,ko]
  .have rN:ae.length<p.length:=by rw[dr];simp
   have hc:p[ae.length]? =some c:=by rw[dr];simp
   have Ph:=zE.lt _ _ hc;obtain⟨x,q,r2,q1,q2,q3,q4,⟨z,q5⟩,-⟩:=row ae.length (by omega);have gx:=eP [cO.row (encI y) 3] q4;have gt:=eP [cO.row (encI y) 3] S.fM.fM;simp(disch:=omega) only[go_sem,seval];refine aJ.pos (by omega) ?_;simp(disch:=omega) only[go_sem,seval,Vg hc,gt,gx,Nat.zero_add,Nat.mul_one,Int.toNat_natCast,q3,q5];refine⟨by omega,by omega,by omega,by rw[cc];omega,?_⟩;exact cd (y.set c (q.getD rows.length 0)) (by simp[hy]) (by rw[List.length_append,List.length_singleton];rfl) (by have:=U3 (show c<y.length by omega) (q.getD rows.length 0) [];grind)
  .have Bm:=eP [cO.row (encI y) 3] g6;have Bk:(h2++[cO.row (encI y) 3]).set h.length (.row [.int .i64 0] 31)=h2++[.row (encI y) 3]:=ph Bm;simp(disch:=omega) only[go_sem,seval];refine ee.keep [4,5,6,7,8,9] (pq (B:=h.length+1) _ _ _ _ (by kernel_rfl) ?_);simp(disch:=omega) only[go_sem,seval,Bm];refine lR (Pu Γ _ _) ?_;rintro _ rfl;simp(disch:=omega) only[go_sem,seval,Bk,Bm];obtain⟨j,rfl⟩:=lB;exact⟨j++[.row (encI y) 3],by simp,.inl ⟨Vh,j.length,y,hy,by simp,by simp⟩⟩
theorem ar1{T:Nat->Nat->KK}{p c d}(hp:p.Nodup)(hc:c∉p):∃w,NV T p c d w:=by
 refine⟨fun x=>if x=c then 1 else match p.findIdx? (·==x)with
  |some j=>-(T j c)
  |none=>0,if_pos rfl,fun j x hx=>?_,fun x _ h1 h2=>?_⟩
 .have hxc:x≠c:=fun e=>hc (e▸List.mem_of_getElem? hx);obtain⟨hj,ex⟩:=List.getElem?_eq_some_iff.1 hx;have hf:p.findIdx? (·==x)=some j:=by rw[List.findIdx?_eq_some_iff_getElem];refine⟨hj,by simp[ex],fun i hi=>?_⟩;simp only[beq_iff_eq];intro e;exact(List.pairwise_iff_getElem.1 hp i j (by omega) hj hi) (e.trans ex.symm)
  simp only[if_neg hxc,hf]
 grind
theorem ar3(l:List KK)(x:KK):ls (l++[x])=ls l+x:=by
 induction l with
 |nil=>simp only[List.nil_append,ls];grobner
 |cons y l ih=>rw[List.cons_append,ls,ih,ls];grobner
def C5(T:Nat->Nat->KK)(t:Nat->KK)(p:List Nat)(c k:Nat):KK:=t c+ls ((List.range k).map fun j=>-(T j c)*t (p.getD j 0))
theorem ar4(T t p c k):C5 T t p c (k+1)=C5 T t p c k+-(T k c)*t (p.getD k 0):=by rw[C5,List.range_succ,List.map_append,List.map_singleton,ar3,C5];grobner
theorem mem_cast{p:List Nat}{x:Nat}:(x:Int)∈p.map (fun n:Nat=>(n:Int))<->x∈p:=by grind
theorem Lm(w k v):(encI w).set k (.int .i64 v)=encI (w.set k v):=by simp[encI,List.map_set]
def E6(w:List Int):Prop:=∀x∈w,0<=x/\x<1073741789
theorem E6.set{w}(h:E6 w){k v}(hv:0<=v/\v<1073741789):E6 (w.set k v):=fun x hx=>by
 rcases List.mem_or_eq_of_mem_set hx with hx|rfl
 .exact h x hx
 .exact hv
theorem ar5(Γ d rows t h)(hd:d<=64)(h0:0<d)(hr:∀r∈rows,yc d r)(hl:rows.length<=64)(ht:yc d t):
  az Tryz.prog Γ 114 [.sl (bD rows) .free,.sl (encI t) .free] h fun v h'=>∃j,h'=h++j/\((Sep (kT rows) rows.length d (kR t)/\∃(q:Nat) (w:List Int),w.length=d/\j[q]? =some (.row (encI w) 3)/\v= .tuple [.ms (h.length+q) 0 d d 1,.bool true,.int .i64 0])\/(¬Sep (kT rows) rows.length d (kR t)/\v= .tuple [.sl [] .full,.bool false,.int .i64 0])):=by
 refine D8 (rs:=[.tmp 4,.tmp 5,.cell 6 31]) (h.length+1) 114 Tryz.func114 rfl rfl rfl rfl (by kernel_rfl) (by kernel_rfl) (by kernel_rfl) ?_;have oJ:=ht.1;refine aU ?_;refine dq.of ((ad_ Γ d rows t _ hd hr hl ht).mono ?_);rintro _ _ rfl;refine aU ?_;have hw:∀r∈rows,r.length=d:=fun r h=>(hr r h).1;refine dq.of ((arN Γ d rows _ (by omega) (by omega) h0 hw).mono ?_);rintro _ h1 ⟨a,R,rfl,P1⟩;obtain⟨j1,rfl⟩:=P1.kp;have hT:=P1.done P1.len;simp(disch:=omega) only[go_sem,seval,cc];refine dq.of ((aen Γ _ a rows.length d rows.length t.length R rows (hT.keep fun i ob e _=>by simpa using e) hT.len (by omega) (by omega) (by omega) (fun r h=>(hr r h).2)).mono ?_);rintro _ h2 ⟨p,o,R',t',rfl,S⟩;have ko:(dQ p).length=p.length:=by simp[dQ,encI]
 have arX:=S.red.le;have Ho:R'.length=rows.length:=S.len;have arY:t'.length=rows.length:=by rw[<-S.fM.len];exact Ho
 have cV:∀i,i<=h.length->i≠a/\∀x∈R,i≠x.b:=fun i hi=>⟨by have:=P1.la;simp at this;omega,fun x hx=>by have:=(P1.lo x hx).1;simp at this;omega⟩;have g6:h2[h.length]? =some (.row [.int .i64 0] 31):=S.kp _ _ (by simp) (cV _ (Nat.le_refl _)).1 (cV _ (Nat.le_refl _)).2;have lB:∃j,h2=h++j:=Ll fun i hi=>by rw[List.getElem?_eq_getElem hi];exact S.kp _ _ (by simp[List.getElem?_append,hi]) (cV i (by omega)).1 (cV i (by omega)).2
 have zE:=S.red;rw[oJ]at zE;have zv:=zE.nodup (by decide);simp(disch:=omega) only[go_sem,seval,cc];have row:∀(j c:Nat),j<rows.length->c<d->∃x q r,R'[j]? =some x/\t'[j]? =some q/\(R'.map (fG d)).drop j= .ms x.b 0 d x.c 1::r/\h2[x.b]? =some (.row (encI q++x.pad) 3)/\(∃z,(encI q++x.pad).drop c= .int .i64 (q.getD c 0)::z)/\kT t' j c=kI (q.getD c 0)/\0<=q.getD c 0/\q.getD c 0<1073741789:=fun j c hj hc=>by have e1:R'[j]? =some R'[j]:=List.getElem?_eq_getElem (by omega);have e2:t'[j]? =some t'[j]:=List.getElem?_eq_getElem (by omega);obtain⟨r,hr⟩:=S.fM.cell e1;have hw:=S.fM.wid _ (List.mem_of_getElem? e2);have hm:=S.rg _ (List.mem_of_getElem? e2) _ (aeF (show c<t'[j].length by omega));exact⟨_,_,r,e1,e2,hr,S.fM.row _ _ _ e1 e2,rowAt (by grind) _,by rw[si e2];rfl,hm⟩
 have Bm:∀l,(h2++l)[h.length]? =some (.row [.int .i64 0] 31):=fun l=>eP l g6;have gtb:∀l,(h2++l)[a]? =some (.row (R'.map (fG d)) 30):=fun l=>eP l S.fM.fM;have Bk:∀l,(h2++l).set h.length (.row [.int .i64 0] 31)=h2++l:=fun l=>ph (Bm l);refine ee.of (y2 (β:=AH) t [1,4,5,6,7,8,27,28,29] (fun ae _=>[(1,.sl (encI t) .free),(4,.sl [] .full),(5,.bool false),(6,.ptr (some (h.length,0))),(7,.ms a 0 rows.length rows.length 1),(8,.sl (dQ p) o),(27,.sl (encI t) .free),(28,.int .i64 t.length),(29,.int .i64 ae.length)]) (fun l=>h2++l) (fun ae _ _=>∀c<ae.length,c∉p->Bd (kT t') (kR t) p c=0) [] ?_ (by simp) (by simp) (fun ae tc r l dr hI=>?_) (fun l hI=>?_))
 .exact dL
 .have rN:ae.length<d:=by rw[<-oJ,dr];simp
  have Vi:t[ae.length]? =some tc:=by rw[dr];simp
  have ar7:=ht.2 tc (List.mem_of_getElem? Vi);refine cI ?_;refine cI ?_;refine bu (aJ.pos (by omega)) ?_;refine fR (jZ ?_);refine cI ?_;refine fR ?_;refine cI ?_;refine az.tP (az.cv (TH Γ (p.map fun n:Nat=>(n:Int)) (ae.length:Nat) _ (by simp;omega)) ?_) (by rw[eI,eI,loose,loose,eI,show eI (dQ p)=dQ p from Fr.rL _];rfl);refine aU ?_;refine gR ?_;refine aJ.intro (fun hc=>?_) (fun hc=>?_)
  .refine aU ?_;refine gR ?_;refine cd l (fun c h1 h2=>?_) (by rw[List.length_append,List.length_singleton];rfl) rfl;by_cases e:c<ae.length
   .exact hI c e h2
   .exfalso;rw[show c=ae.length by simp at h1;omega]at h2;exact h2 (mem_cast.1 hc)
  .refine aU ?_;have Be:ae.length∉p:=fun e=>hc (mem_cast.2 e);obtain⟨K,hK⟩:∃K:AH,K=h2++l:=⟨_,rfl⟩;rw[<-hK];obtain⟨Hd,lS⟩:∃Hd:List Nat->AH,Hd=fun done=>if 2∈done then K++[.row (kL d [.int .i64 0]) 3]else K:=⟨_,rfl⟩
   have eH:∀q done,q≠2->Hd (q::done)=Hd done:=fun q done hq=>by rw[lS];simp[Ne.symm hq]
   refine fR ?_;rw[show K=Hd []by rw[lS];rfl];refine amF [[],[0],[1],[],[],[3,4],[5],[2],[6]] [1,4,5,6,7,8,9,27,28,29] (fun q=>[.sl (encI t) .free,.int .i64 d,.ms K.length 0 d d 1,.sl (encI t) .free,.int .i64 ae.length,.bS [.int .i64 tc],.int .i64 tc,.ms K.length 0 d d 1,.int .i64 tc].getD q .top) Hd Ty.mixed (by kernel_rfl) (by kernel_rfl) (by kernel_rfl) (by kernel_rfl) ?_ ?_
   .intro q op ho done σ jb _ dy hf hv C hC;have f1:lk σ 1= .sl (encI t) .free:=(hf 1 (by decide)).trans rfl;have f9:lk σ 9= .int .i64 ae.length:=(hf 9 (by decide)).trans rfl;rcases q with _|_|_|_|_|_|_|_|_|q;all_goals simp only[List.getElem?_toArray,List.getElem?_cons_zero,List.getElem?_cons_succ,Option.some.injEq,List.getElem?_nil,reduceCtorEq,Nat.zero_add,Nat.reduceAdd]at ho
    all_goals subst ho
    all_goals rw[AP]
    .rw[eH _ _ (by decide)]at hC;simp(disch:=omega) only[go_sem,seval,f1];exact hC
    .rw[eH _ _ (by decide)]at hC;have v0:lk σ 35= .sl (encI t) .free:=hv 0 (jb 0 (by decide)) (by decide);simp(disch:=omega) only[go_sem,seval,v0,cc,oJ];exact hC
    .have v1:lk σ 36= .int .i64 d:=hv 1 (jb 1 (by decide)) (by decide);have e4:Hd done=K:=by rw[lS];simp only;rw[if_neg dy]
     have e5:Hd (2::done)=K++[.row (kL d [.int .i64 0]) 3]:=by rw[lS];simp
     rw[e5]at hC;rw[e4];simp(disch:=omega) only[go_sem,seval,v1];exact⟨by omega,by omega,by omega,hC⟩
    .rw[eH _ _ (by decide)]at hC;simp(disch:=omega) only[go_sem,seval,f1];exact hC
    .rw[eH _ _ (by decide)]at hC;simp(disch:=omega) only[go_sem,seval,f9];exact hC
    .rw[eH _ _ (by decide)]at hC;have v3:lk σ 38= .sl (encI t) .free:=hv 3 (jb 3 (by decide)) (by decide);have v4:lk σ 39= .int .i64 ae.length:=hv 4 (jb 4 (by decide)) (by decide);simp(disch:=omega) only[go_sem,seval,v3,v4,xO Vi];exact hC
    .rw[eH _ _ (by decide)]at hC;have v5:lk σ 40= .bS [.int .i64 tc]:=hv 5 (jb 5 (by decide)) (by decide);simp(disch:=omega) only[go_sem,seval,v5];exact hC
    .rw[eH _ _ (by decide)]at hC;have v2:lk σ 37= .ms K.length 0 d d 1:=hv 2 (jb 2 (by decide)) (by decide);simp(disch:=omega) only[go_sem,seval,v2];exact hC
    .rw[eH _ _ (by decide)]at hC;have v6:lk σ 41= .int .i64 tc:=hv 6 (jb 6 (by decide)) (by decide);simp(disch:=omega) only[go_sem,seval,v6];exact hC
   .intro done σ bT hf hv;have e4:Hd done=K++[.row (kL d [.int .i64 0]) 3]:=by rw[lS];simp only;rw[if_pos (bT 2 (by decide))]
    rw[e4,Pv];refine aU ?_;refine bw.weaken (σ':=[(1,.sl (encI t) .free),(4,.sl [] .full),(5,.bool false),(6,.ptr (some (h.length,0))),(7,.ms a 0 rows.length rows.length 1),(8,.sl (dQ p) o),(9,.int .i64 ae.length),(10,.ms K.length 0 d d 1),(11,.int .i64 tc),(27,.sl (encI t) .free),(28,.int .i64 t.length),(29,.int .i64 ae.length)]) ?_ (AX σ _ ?_);rotate_left
    .intro q hq;simp only[List.mem_cons,List.not_mem_nil,or_false]at hq;rcases hq with rfl|rfl|rfl|rfl|rfl|rfl|rfl|rfl|rfl|rfl|rfl|rfl
     .exact(hf 1 (by decide)).trans rfl
     .exact(hf 4 (by decide)).trans rfl
     .exact(hf 5 (by decide)).trans rfl
     .exact(hf 6 (by decide)).trans rfl
     .exact(hf 7 (by decide)).trans rfl
     .exact(hf 8 (by decide)).trans rfl
     .exact(hf 9 (by decide)).trans rfl
     .exact hv 7 (by decide)
     .exact hv 8 (by decide)
     .exact(hf 27 (by decide)).trans rfl
     .exact(hf 28 (by decide)).trans rfl
     .exact(hf 29 (by decide)).trans rfl
    .have gK:=Bm l;have gt:=gtb l;rw[<-hK]at gK gt;refine cI ?_;refine⟨by omega,by rw[cc,List.length_replicate];omega,?_⟩;rw[Lm,Nat.zero_add,Nat.mul_one];refine fR ?_;refine eQ ?_;simp(disch:=omega) only[go_sem,seval,ko];refine jZ ?_;refine y2 (β:=List Int×Int) p [1,4,5,6,7,8,9,10,11,27,28,29,45,46,47] (fun dn b=>[(1,.sl (encI t) .free),(4,.sl [] .full),(5,.bool false),(6,.ptr (some (h.length,0))),(7,.ms a 0 rows.length rows.length 1),(8,.sl (dQ p) o),(9,.int .i64 ae.length),(10,.ms K.length 0 d d 1),(11,.int .i64 b.2),(27,.sl (encI t) .free),(28,.int .i64 t.length),(29,.int .i64 ae.length),(45,.sl (dQ p) o),(46,.int .i64 p.length),(47,.int .i64 dn.length)]) (fun b=>K++[.row (encI b.1) 3])
      (fun dn _ b=>b.1.length=d/\E6 b.1/\(0<=b.2/\b.2<1073741789)/\kI b.2=C5 (kT t') (kR t) p ae.length dn.length) ((List.replicate d 0).set ae.length 1,tc) ?_ rfl ⟨by simp,E6.set (fun x hx=>by rw[List.eq_of_mem_replicate hx];decide) (by decide),ar7,?_⟩ (fun dn x r2 b Px hb=>?_) (fun b hb=>?_)
     .exact dL
     .rw[C5,kR,List.getD_eq_getElem?_getD,Vi];simp only[List.length_nil,List.range_zero,List.map_nil,ls,Option.getD_some];grobner
     .obtain⟨w,pr⟩:=b;obtain⟨b1,b2,b3,b4⟩:=hb;dsimp only at b1 b2 b3 b4|-;have bT:dn.length<p.length:=by rw[Px];simp
      have hx:p[dn.length]? =some x:=by rw[Px];simp
      have hxd:=zE.lt _ _ hx;obtain⟨y,q,r3,q1,q2,q3,q4,⟨z,q5⟩,q6,q7⟩:=row dn.length ae.length (by omega) rN;have gy:∀l,(K++l)[y.b]? =some (.row (encI q++y.pad) 3):=fun l'=>by rw[hK,List.append_assoc];exact eP _ q4
      refine eQ ?_;simp(disch:=omega) only[go_sem,seval];refine cI ?_;refine bu (aJ.pos (by omega)) ?_;refine fR (jZ ?_);refine eQ ?_;simp(disch:=omega) only[go_sem,seval,Vg hx];refine eQ ?_;have Lk:∀l',(K++l')[a]? =some (.row (R'.map (fG d)) 30):=fun l'=>by rw[hK,List.append_assoc];exact eP _ S.fM.fM
      simp(disch:=omega) only[go_sem,seval,Lk,gy,Nat.zero_add,Nat.mul_one,Int.toNat_natCast,q3,q5];obtain⟨v,H8⟩:∃v,v=(0-q.getD ae.length 0)%1073741789:=⟨_,rfl⟩;have yF:0<=v/\v<1073741789:=by rw[H8];exact⟨Int.emod_nonneg _ (by decide),Int.emod_lt_of_pos _ (by decide)⟩
      have hvk:kI v=-(kT t' dn.length ae.length):=by rw[H8,CV,Int.zero_sub,adS,q6]
      refine⟨by omega,by omega,az.cv (Lb Γ _ _ (by omega)) ?_⟩;rw[<-H8];refine aU ?_;refine⟨by omega,by rw[cc];omega,?_⟩;rw[Lm,Nat.zero_add,Nat.mul_one];obtain⟨tx,tZ⟩:∃tx,t[x]? =some tx:=⟨_,List.getElem?_eq_getElem (by omega)⟩;have aCH:=ht.2 tx (List.mem_of_getElem? tZ);obtain⟨z2,rA⟩:=rowAt (show(w.set x v)[x]? =some v by rw[List.getElem?_set_self (by omega)]) [];rw[List.append_nil]at rA;refine gO ?_;simp(disch:=omega) only[go_sem,seval,Nat.zero_add,Nat.mul_one,Int.toNat_natCast,xO tZ,rA];have JB:=Bh v tx;refine⟨by omega,gY.intro (fun _=>CX Γ _ _ _ (by omega) (by omega)) ?_⟩;refine aU ?_;refine bu (gY.intro (fun _=>ad5 Γ _ _ _ (by omega) (by omega))) ?_;refine gR ?_;refine cd (w.set x v,ti pr (jS v tx)) ⟨by rw[List.length_set];exact b1,b2.set yF,ad3 _ _,?_⟩ (by rw[List.length_append,List.length_singleton];rfl) rfl;rw[ad2,G7,b4,hvk,List.length_append,List.length_singleton,ar4,List.getD_eq_getElem?_getD,hx,Option.getD_some,kR,List.getD_eq_getElem?_getD,tZ];rfl
     .obtain⟨w,pr⟩:=b;obtain⟨b1,b2,b3,b4⟩:=hb;dsimp only at b1 b2 b3 b4|-;refine eQ ?_;simp(disch:=omega) only[go_sem,seval];refine cI ?_;refine cI ?_;refine az.cv (ad6 Γ pr _ b3) ?_;by_cases hz:pr=0
      .rw[if_pos hz];refine aU ?_;refine cI ?_;refine gR ?_;refine gR ?_;refine cd (l++[.row (encI w) 3]) (fun c h1 h2=>?_) (by rw[List.length_append,List.length_singleton];rfl) (by rw[hK,List.append_assoc]);by_cases e:c<ae.length
       .exact hI c e h2
       .rw[show c=ae.length by simp at h1;omega];have:Bd (kT t') (kR t) p ae.length=C5 (kT t') (kR t) p ae.length p.length:=rfl;rw[this,<-b4,hz];rfl
      .rw[if_neg hz];refine aU ?_;refine cI ?_;refine gR ?_;have UQ:=U0 1073741787 1 pr (by decide);rw[<-yb]at UQ;obtain⟨w0,hnv⟩:=ar1 (T:=kT t') (d:=d) zv Be;have Vh:Sep (kT rows) rows.length d (kR t):=(aqT (by decide) zE rN Be hnv).2 (by have:Bd (kT t') (kR t) p ae.length=C5 (kT t') (kR t) p ae.length p.length:=rfl;rw[this,<-b4,ne_eq,Pd b3];exact hz)
       refine y2 (β:=List Int) (List.range d) [6,10,14,83,84,85] (fun dn _=>[(6,.ptr (some (h.length,0))),(10,.ms K.length 0 d d 1),(14,.int .i64 (yb pr)),(83,.ms K.length 0 d d 1),(84,.int .i64 d),(85,.int .i64 dn.length)]) (fun w=>K++[.row (encI w) 3])
        (fun _ _ w=>w.length=d/\E6 w) w ?_ rfl ⟨b1,b2⟩ (fun dn x r2 w Px hb=>?_) (fun w hb=>?_)
       .exact dL
       .obtain⟨c1,c2⟩:=hb;have bT:dn.length<d:=by have:=congrArg List.length Px;simp at this;omega
        obtain⟨x,hx⟩:∃x,w[dn.length]? =some x:=⟨_,List.getElem?_eq_getElem (by omega)⟩;have RN:=c2 x (List.mem_of_getElem? hx);obtain⟨z2,rA⟩:=rowAt hx [];rw[List.append_nil]at rA;refine cI ?_;refine cI ?_;refine bu (aJ.pos (by omega)) ?_;refine fR (jZ ?_);refine eQ ?_;simp(disch:=omega) only[go_sem,seval,Nat.zero_add,Nat.mul_one,Int.toNat_natCast,rA];refine⟨by omega,?_⟩;refine gR ?_;refine bL (CX Γ _ _ _ (by omega) (by omega)) ?_;refine⟨by omega,by rw[cc];omega,?_⟩;rw[Lm,Nat.zero_add,Nat.mul_one];refine gR ?_;exact cd (w.set dn.length (jS x (yb pr))) ⟨by rw[List.length_set];exact c1,c2.set (Bh _ _)⟩ (by rw[List.length_append,List.length_singleton];rfl) rfl
       .refine cI ?_;refine eQ ?_;simp(disch:=omega) only[go_sem,seval,List.length_range];have Vk:(K++[cO.row (encI w) 3])[h.length]? =some (.row [.int .i64 0] 31):=by rw[hK,List.append_assoc];exact Bm _
        have DZ:(K++[cO.row (encI w) 3]).set h.length (.row [.int .i64 0] 31)=K++[.row (encI w) 3]:=ph Vk;refine gO ?_;simp(disch:=omega) only[go_sem,seval,Vk];refine lR (Pu Γ _ _) ?_;rintro _ rfl;simp(disch:=omega) only[go_sem,seval,DZ,Vk];obtain⟨j,rfl⟩:=lB;refine⟨j++l++[.row (encI w) 3],by rw[hK];simp,.inl ⟨Vh,(j++l).length,w,hb.1,by simp,by rw[hK];simp⟩⟩
 .refine cI ?_;refine cI ?_;refine pq (B:=h.length+1) _ _ _ _ (by kernel_rfl) ?_;simp(disch:=omega) only[go_sem,seval,Bm];refine lR (Pu Γ _ _) ?_;rintro _ rfl;simp(disch:=omega) only[go_sem,seval,Bk,Bm];obtain⟨j,rfl⟩:=lB;exact⟨j++l,by simp,.inr (aqV zE fun c h1 h2=>hI c (by omega) h2)⟩
end Go.Proofs.YtmfjlankeocaoaaGreatDoor.Fr.L
