/- Parts of the proof of TopPolicy, joined: ProA..TopJ. No conditions. -/
import Derived.Test.YtmfjlankeocaoaaGreatDoorME
set_option linter.all false
set_option maxRecDepth 100000
set_option maxHeartbeats 8000000
namespace Go.Proofs.YtmfjlankeocaoaaGreatDoor.Fr.L
open lV Go Go.Proofs Go.aS
structure Lo(d:Nat)(rows:List (List Int))(own:List Int):Prop where
 lr:rows.length<=64
 lo:own.length=rows.length
 rq:∀r∈rows,yc d r
 d0:0<d
 d64:d<=64
 ow:∀n∈own,0<=n/\n<64
theorem aeH(Γ n a b h):AC Γ 217 [.int .i64 n,.int .i64 a,.int .i64 b] h (.bool (decide (a<=n/\n<=b))):=by
 refine az.drop ?_;refine cY [.tmp 6] Tryz.func217 ?_;refine aJ.intro (fun h1=>?_) (fun h1=>?_)<;>simp(disch:=omega) only[go_sem,seval]
 .grind
 .rw[decide_eq_false (by omega)]
theorem aeI(Γ n h):AC Γ 167 [.int .i64 n] h (.bool (decide (0<=n/\n<=63))):=by refine az.drop ?_;refine cY [.tmp 2] Tryz.func167 ?_;exact qx (aeH Γ _ _ _ _)
theorem ar_(Γ r h)(hr:r.length<=64):AC Γ 214 [.sl (encI r) .free] h (.bool false):=by refine az.drop ?_;refine cS [.tmp 2] Tryz.func214 ?_;simp(disch:=omega) only[go_sem,seval,cc];rw[decide_eq_false (by omega)]
theorem asa(Γ x h)(hx:0<=x/\x<1073741789):AC Γ 216 [.int .i64 x] h (.bool false):=by refine az.drop ?_;refine cY [.tmp 2] Tryz.func216 ?_;refine bL (aeH Γ _ _ _ _) ?_;grind
theorem asb(Γ F l h)(hl:l.length<=1000)(hF:∀x∈l,∀h,AC Γ F [.sl (encI x) .free] h (.bool false)):
  AC Γ 262 [.sl (bD l) .free,.func F [] []] h (.int .i64 (-1)):=by
 refine az.drop ?_;refine cS [.tmp 4] Tryz.func262 ?_;simp(disch:=omega) only[go_sem,seval,jG];refine d_ (β:=Unit) l [0,1,7,8] (fun ae _=>[(0,.sl (bD l) .free),(1,.func F [] []),(7,.int .i64 l.length),(8,.int .i64 ae.length)]) (fun _=>h) (fun _ _ _=>True) () ?_ rfl trivial ?_ ?_
 .simp(disch:=omega) only[go_sem,seval,List.length_nil]
 .rintro ae x r _ hd-;have hlen:l.length=ae.length+1+r.length:=by rw[hd];simp;omega
  have e1:(bD l)[ae.length]? =some (.sl (encI x) .free):=by rw[hd];exact G_ ae r x
  simp(disch:=omega) only[go_sem,seval];refine aJ.pos (by omega) ?_;simp(disch:=omega) only[go_sem,seval,e1];refine bL (hF x (by rw[hd];simp) _) ?_;refine cd () trivial ?_ rfl;simp(disch:=omega) only[go_sem,seval,List.length_append]
 .rintro _-;refine aU ?_;exact yT []
theorem asc(Γ F l h)(hl:l.length<=1000)(hF:∀x∈l,∀h,AC Γ F [.sl (encI x) .free] h (.bool false)):
  AC Γ 215 [.sl (bD l) .free,.func F [] []] h (.bool false):=by
 refine az.drop ?_;refine cY [.tmp 4] Tryz.func215 ?_;exact qx (asb Γ F l _ hl hF)
def vz(rows:List (List Int))(own:List Int):List AV:=[.sl (bD rows) .free,.sl (encI own) .free]
def mY(rows:List (List Int))(own:List Int):AV:= .agg (vz rows own)
theorem asd(Γ d rows own h)(H:Lo d rows own):AC Γ 166 [mY rows own] h (.int .i64 0):=by
 refine az.drop ?_;have hl:=H.lr;have ho:=H.lo;rw[mY,vz];refine cS [.tmp 2] Tryz.func166 ?_;simp(disch:=omega) only[go_sem,seval,jG];refine bu (aJ.neg (by omega)) ?_;refine az.cv (asc Γ _ rows _ (by omega) fun x hx h=>ar_ Γ x h (by rw[(H.rq x hx).1];exact H.d64)) ?_;simp(disch:=omega) only[go_sem,seval,jG,cc];refine aJ.pos (by omega) ?_;simp(disch:=omega) only[go_sem,seval,jG];refine d_ (β:=Unit) rows [1,25,26,27] (fun ae _=>[(1,.ptr (some (h.length,0))),(25,.sl (bD rows) .free),(26,.int .i64 rows.length),(27,.int .i64 ae.length)]) (fun _=>h++[.row [.sl (bD rows) .free,.sl (encI own) .free] 90]) (fun _ _ _=>True) () ?_ rfl trivial ?_ ?_
 .exact dL
 .rintro ae x r _ hd-;have hlen:rows.length=ae.length+1+r.length:=by rw[hd];simp;omega
  have e1:(bD rows)[ae.length]? =some (.sl (encI x) .free):=by rw[hd];exact G_ ae r x
  have hx:=H.rq x (by rw[hd];simp);have AL:=H.d0;have iD:=hx.1;obtain⟨y,hy⟩:∃y,rows[0]? =some y:=⟨_,List.getElem?_eq_getElem (by omega)⟩;have yo:=(H.rq y (List.mem_of_getElem? hy)).1;obtain⟨n,hn⟩:∃n,own[ae.length]? =some n:=⟨_,List.getElem?_eq_getElem (by omega)⟩;have J4:=H.ow n (List.mem_of_getElem? hn);simp(disch:=omega) only[go_sem,seval];refine aJ.pos (by omega) ?_;simp(disch:=omega) only[go_sem,seval,e1,cc];refine aJ.neg (by omega) ?_;simp(disch:=omega) only[go_sem,seval,cc,xW hy];refine aJ.pos (by omega) ?_;simp(disch:=omega) only[go_sem,seval,xO hn];refine az.cv (aeI Γ _ _) ?_;have hp:decide (0<=n/\n<=63)=true:=decide_eq_true (by omega);have ase:=H.d64;simp(disch:=omega) only[go_sem,seval,hp];refine bL (ad8 Γ _ x _ (by omega) fun z hz h=>asa Γ z h (hx.2 z hz)) ?_;refine cd () trivial ?_ rfl;simp(disch:=omega) only[go_sem,seval,List.length_append]
 .rintro _-;refine aU ?_;exact yT []
def mZ(who:List Int)(L:List (List Int×Int)):List (Nat×List Int):=(L.zipIdx.filter fun p=>mz who p.1.2).map fun p=>(p.2,p.1.1)
theorem aeJ(who a x):mZ who (a++[x])=if mz who x.2=true then mZ who a++[(a.length,x.1)]else mZ who a:=by
 rw[mZ,List.zipIdx_append,List.filter_append,List.map_append];simp only[List.zipIdx_cons,List.zipIdx_nil,Nat.zero_add,List.filter_cons,List.filter_nil];split
 .simp[mZ]
 .simp[mZ]
theorem asf(who a b x):∃r,mZ who (a++x::b)=mZ who (a++[x])++r:=by rw[show a++x::b=(a++[x])++b by simp];rw[mZ,List.zipIdx_append,List.filter_append,List.map_append];exact⟨_,rfl⟩
def Vl(rows:List (List Int))(own who:List Int):AV:= .func 219 [] [.bS (vz rows own),.bS [.sl (encI who) .free]]
theorem J_(l):eI (bD l)=bD l:=uL _ (fun r=>by simp[loose,rL]) l
theorem wm(n l):RB n (.sl (bD l) .free):= .qo fun r hr=>by obtain⟨x,_,rfl⟩:=List.mem_map.1 hr;exact of_eq_true (Fr.pZ n x)
theorem asg(Γ rows own who h):AC Γ 168 [mY rows own,.sl (encI who) .free] h (Vl rows own who):=by
 rw[Vl,mY,vz];refine az.ji ?_;refine az.freeze ?_;refine az.freeze ?_;refine cY [.tmp 4] Tryz.func168 ?_;have e1:∀a b:cO,(h++[a,b])[h.length]? =some a:=fun a b=>by simp
 have e2:∀a b:cO,((h++[a,b]).set h.length .frozen)[h.length+1]? =some b:=fun a b=>by grind
 have e4:∀a b:cO,∃l,((h++[a,b]).set h.length .frozen).set (h.length+1) .frozen=h++l:=fun a b=>⟨[.frozen,.frozen],by simp_all⟩;refine⟨h.length,_,_,_,e1 _ _,jM.set (e1 _ _),h.length+1,_,_,_,e2 _ _,jM.set (e2 _ _),e4 _ _,?_,?_⟩
 .simp only[dd,fB,if_true,List.drop_zero];rw[if_neg (by omega)];simp only[dd,if_true,List.drop_zero,loose];exact .func (bB.nil _) (bB.cons (.bS (bB.cons (wm _ _) (bB.cons (of_eq_true (Fr.pZ _ _)) (bB.nil _)))) (bB.cons (.bS (bB.cons (of_eq_true (Fr.pZ _ _)) (bB.nil _))) (bB.nil _)))
 .simp only[dd,fB,if_true,List.drop_zero];rw[if_neg (by omega)];simp only[dd,if_true,List.drop_zero,loose]
theorem ash(Γ who n h)(hw:who.Pairwise (·<·))(mT:who.length<=1000):
  AC Γ 212 [.sl (encI who) .free,.int .i64 n] h (.tuple [.int .i64 (below who n),.bool (decide (n∈who))]):=by
 have:=Go.Proofs.YtmfjlankeocaoaaGreatDoor.SY Γ who n h hw mT;rw[show Go.Proofs.YtmfjlankeocaoaaGreatDoor.encI who=encI who from rfl]at this;refine this.mono ?_;grind
theorem asi(Γ rows own who)(hl:rows.length<=64)(ho:own.length=rows.length)(hw:who.Pairwise (·<·))(mT:who.length<=1000):
  NN Tryz.prog Γ 219 [.bS (vz rows own),.bS [.sl (encI who) .free]] (fun x=>[.int .i64 x.1,.sl (encI x.2) .free]) (mZ who (rows.zip own)):=by
 intro L I S hh HA HS HY hI;have Il:(rows.zip own).length=rows.length:=by rw[List.length_zip];omega
 rw[vz];refine cS [] Tryz.func219 ?_;simp(disch:=omega) only[go_sem,seval,jG];refine JQ (rows.zip own) [0,1,2,9,10,11] (fun ae=>[(0,.yield L),(1,.bS [.sl (bD rows) .free,.sl (encI own) .free]),(2,.bS [.sl (encI who) .free]),(9,.sl (bD rows) .free),(10,.int .i64 rows.length),(11,.int .i64 ae.length)])
  (fun ae _ h=>I (mZ who ae) h) ?_ hI ?_ ?_
 .simp(disch:=omega) only[go_sem,seval,List.length_nil]
 .rintro ae ⟨x,n⟩ r h hd uZ;have hlen:rows.length=ae.length+1+r.length:=by rw[<-Il,hd];simp;omega
  obtain⟨Di,hn0⟩:rows[ae.length]? =some x/\own[ae.length]? =some n:=by
   have e:(rows.zip own)[ae.length]? =some (x,n):=by rw[hd];simp
   exact List.getElem?_zip_eq_some.1 e
  refine cI ?_;refine cI ?_;refine bu (aJ.pos (by omega)) ?_;refine fR (jZ ?_);refine eQ ?_;simp(disch:=omega) only[go_sem,seval,xW Di];refine eQ ?_;simp(disch:=omega) only[go_sem,seval,xO hn0];refine bu (gY.intro (fun _=>ash Γ who n _ hw mT)) ?_;refine gR ?_;have hP:mz who n=decide (n∈who):=rfl;refine aJ.intro (fun hb=>?_) (fun hb=>?_)<;>simp(disch:=omega) only[go_sem,seval]
  .rw[decide_eq_true hb]at hP;have ea:=aeJ who ae (x,n);rw[if_pos hP]at ea;obtain⟨r',e'⟩:=asf who ae r (x,n);rw[<-hd,ea,List.append_assoc]at e';refine(HY _ (ae.length,x) r' _ e' uZ).mono ?_;rintro w h2 (⟨rfl,Ae⟩|⟨rfl,Cr⟩)<;>simp(disch:=omega) only[go_sem,seval]
   .refine gO ?_;simp(disch:=omega) only[go_sem,seval,List.length_append];rwa [ea]
   .exact .inr Cr
  .rw[decide_eq_false hb]at hP;refine gO ?_;simp(disch:=omega) only[go_sem,seval,List.length_append];rw[aeJ,if_neg (by rw[hP];decide)];exact uZ
 .rintro h uZ;refine gO ?_;simp(disch:=omega) only[go_sem,seval,Il];exact .inl uZ
def nW(d:Nat):List Int:=(List.replicate d 0).set 0 1
theorem Kk(i cs l):fB i cs (encI l)=encI l:=by rw[pW,encI,List.map_map];exact List.map_congr_left fun x _=>by simp[dd]
theorem aeK(i cs l):fB i cs (bD l)=bD l:=by rw[pW,bD,List.map_map];exact List.map_congr_left fun x _=>by simp[dd,Kk]
theorem asl(i cs l):fB i cs (dQ l)=dQ l:=Kk ..
theorem asm(l):eI (dQ l)=dQ l:=rL _
theorem aeL{K n l}(h:l.length=n):dd K (encI l) (.ms K 0 n n 1)= .sl (encI l) .free:=by
 have eD:tQ (encI l) 0 n n 1=true:=by simp only[tQ,cc,Bool.and_eq_true,decide_eq_true_eq,List.all_eq_true];refine⟨⟨⟨by omega,Nat.le_refl _⟩,rfl⟩,fun c hc=>?_⟩;obtain⟨x,_,rfl⟩:=List.mem_map.1 hc;rfl
 rw[dd,if_pos ⟨rfl,eD⟩,List.drop_zero,DS _ _ (by rw[cc];omega),List.take_of_length_le (by rw[cc];omega)]
theorem Vm(who L):(mZ who L).length<=L.length:=by rw[mZ,List.length_map];exact Nat.le_trans (List.length_filter_le _ _) (by simp)
theorem Py(l):db 1 (bD l):=db.map (f:=fun r=>AV.sl (encI r) .free) (fun _=>⟨rfl,fun c hc=>by simp[AV.cells]at hc;subst hc;rfl⟩) l
theorem Pz(l):db 1 (dQ l):=db.int _
theorem Vn(l):(dQ l).length=l.length:=by simp[dQ,encI]
theorem aeM(Γ d rows own who h)(H:Lo d rows own)(h1:rows=[]->d=1)(hw:iS who=true):
  AC Γ 112 [mY rows own,.sl (encI who) .free] h (.tuple [.sl (bD ((mZ who (rows.zip own)).map Prod.snd)) .free,.sl (dQ ((mZ who (rows.zip own)).map Prod.fst)) .free,.sl (encI (nW d)) .free,.int .i64 0]):=by
 obtain⟨vo,oS⟩:=(SH who).1 hw;have mT:=JL hw;have hl:=H.lr;have AL:=H.d0;have ase:=H.d64;refine az.ji ?_;refine az.freeze ?_;rw[mY,vz];refine cY [.cell 4 58,.cell 5 30,.tmp 6,.tmp 7] Tryz.func112 ?_;refine az.cv (asd Γ d rows own _ H) ?_;simp(disch:=omega) only[go_sem,seval,cc];obtain⟨K,hK⟩:∃K:AH,K=h++[.row [.sl (bD rows) .free,.sl (encI own) .free] 90,.row [.sl [] .full] 58,.row [.sl [] .full] 30]:=⟨_,rfl⟩;rw[<-hK];have g0:K[h.length]? =some (.row [.sl (bD rows) .free,.sl (encI own) .free] 90):=by rw[hK];simp
 have g1:K[h.length+1]? =some (.row [.sl [] .full] 58):=by rw[hK];simp
 have g2:K[h.length+2]? =some (.row [.sl [] .full] 30):=by rw[hK];simp
 have lQ:K.length=h.length+3:=by rw[hK];simp
 refine d_ (β:=Int) who [1,2,4,5,8,19,20,21] (fun ae b=>[(1,.sl (encI who) .free),(2,.ptr (some (h.length,0))),(4,.ptr (some (h.length+1,0))),(5,.ptr (some (h.length+2,0))),(8,.int .i64 b),(19,.sl (encI who) .free),(20,.int .i64 who.length),(21,.int .i64 ae.length)]) (fun _=>K) (fun _ r b=>jE b r=true/\-1<=b) (-1) ?_ rfl ⟨hw,by omega⟩ ?_ ?_
 .exact dL
 .rintro ae x r b hd ⟨hb,fI⟩;have hlen:who.length=ae.length+1+r.length:=by rw[hd];simp;omega
  have e1:(encI who)[ae.length]? =some (.int .i64 x):=by rw[hd];exact ad7 ae r x
  rw[jE,Bool.and_eq_true,decide_eq_true_eq]at hb;have hp:decide (0<=x/\x<=63)=true:=decide_eq_true (by omega);simp(disch:=omega) only[go_sem,seval];refine aJ.pos (by omega) ?_;simp(disch:=omega) only[go_sem,seval,e1];refine az.cv (aeI Γ _ _) ?_;simp(disch:=omega) only[go_sem,seval,hp];refine bu (aJ.neg (by omega)) ?_;refine cd x ⟨hb.2,by omega⟩ ?_ rfl;simp(disch:=omega) only[go_sem,seval,List.length_append]
 .rintro b-;simp(disch:=omega) only[go_sem,seval];refine bu (bw.keep [1,2,4,5]) ?_;refine cI ?_;refine SP [1,2,4,5,11] (fun σ hy=>hy=K/\σ=[(1,.sl (encI who) .free),(2,.ptr (some (h.length,0))),(4,.ptr (some (h.length+1,0))),(5,.ptr (some (h.length+2,0))),(11,.int .i64 d)]) (gO ?_) ?_
  .simp(disch:=omega) only[go_sem,seval,g0,jG];refine aJ.intro (fun hp=>?_) (fun hp=>?_)
   .obtain⟨y,hy⟩:∃y,rows[0]? =some y:=⟨_,List.getElem?_eq_getElem (by omega)⟩;have yo:=(H.rq y (List.mem_of_getElem? hy)).1;simp(disch:=omega) only[go_sem,seval,g0,xW hy,cc];rw[yo]
   .have:=h1 (List.eq_nil_of_length_eq_zero (by omega));subst this;exact dL
  rintro _ _ ⟨e,rfl⟩;rw[e];clear e;refine cI ?_;refine⟨by omega,by omega,by omega,?_⟩;rw[Pv];refine cI ?_;refine⟨by omega,by rw[cc,List.length_replicate];omega,?_⟩;rw[Lm,<-nW];obtain⟨K2,E7⟩:∃K2:AH,K2=K++[.row (encI (nW d)) 3]:=⟨_,rfl⟩;rw[<-E7];have k0:K2[h.length]? =some (.row [.sl (bD rows) .free,.sl (encI own) .free] 90):=by rw[E7];exact eP _ g0
  have k1:K2[h.length+1]? =some (.row [.sl [] .full] 58):=by rw[E7];exact eP _ g1
  have k2:K2[h.length+2]? =some (.row [.sl [] .full] 30):=by rw[E7];exact eP _ g2
  have k3:K2[h.length+3]? =some (.row (encI (nW d)) 3):=by rw[E7,<-lQ];simp
  have hLl:K2.length=h.length+4:=by rw[E7,List.length_append,lQ];rfl
  refine fR ?_;refine eQ ?_;simp(disch:=omega) only[go_sem,seval,k0];refine bL (asg Γ rows own who _) ?_;refine jZ ?_;have c2:=asi Γ rows own who hl H.lo vo (by omega);refine SS (by rw[Vl];rfl) fun li iZ=>?_;obtain⟨L,hL⟩:∃L,L=K2.length:=⟨_,rfl⟩;rw[<-hL];obtain⟨I,hI⟩:∃I:List (Nat×List Int)->AH->Prop,I=fun ae hx=>L<hx.length/\hx[L]? =some (.loop .ready none li)/\(∃o1 o2,hx[h.length+1]? =some (.row [.sl (bD (ae.map Prod.snd)) o1] 58)/\hx[h.length+2]? =some (.row [.sl (dQ (ae.map Prod.fst)) o2] 30)/\((ae=[]/\o1= .full/\o2= .full)\/∃i1 i2,o1= .bN i1/\o2= .bN i2/\L<i1/\L<i2/\i1≠i2/\hx[i1]? =some (.bN ae.length)/\hx[i2]? =some (.bN ae.length)))/\(∀i<L,i≠h.length+1->i≠h.length+2->hx[i]? =K2[i]?)/\∀i ob,L<i->hx[i]? =some ob->∀st pe li,ob≠ .loop st pe li:=⟨_,rfl⟩;refine(c2 L I (fun _=>False) _ ?_ (fun _ _ _ h=>h) ?_ ?_).mono ?_
  .intro ae hx l hl rf;rw[hI]at rf|-;obtain⟨q0,q1,⟨o1,o2,q2,q3,q4⟩,q5,q6⟩:=rf;refine⟨by simp;omega,eP _ q1,⟨o1,o2,eP _ q2,eP _ q3,?_⟩,fun i hi n1 n2=>by grind,fun i ob hi e=>?_⟩
   .rcases q4 with q4|⟨i1,i2,a0,a1,a2,a3,a4,a5,a6⟩
    .exact .inl q4
    .exact .inr ⟨i1,i2,a0,a1,a2,a3,a4,eP _ a5,eP _ a6⟩
   .rw[List.getElem?_append]at e;split at e
    .exact q6 i ob hi e
    .exact hl ob (List.mem_of_getElem? e)
  .intro ae x r hx hd rf;rw[hI]at rf;obtain⟨q0,q1,⟨o1,o2,q2,q3,q4⟩,q5,q6⟩:=rf;refine bu (Jf iZ q1 (by kernel_rfl) rfl Ty.mixed (by kernel_rfl) (by kernel_rfl)) ?_;refine⟨q1,?_⟩;have f1:(hx.set L (.loop .busy none li))[h.length+1]? =some (.row [.sl (bD (ae.map Prod.snd)) o1] 58):=by rw[List.getElem?_set_ne (by omega)];exact q2
   have f2:(hx.set L (.loop .busy none li))[h.length+2]? =some (.row [.sl (dQ (ae.map Prod.fst)) o2] 30):=by rw[List.getElem?_set_ne (by omega)];exact q3
   have rN:ae.length<=64:=by have:=congrArg List.length hd;have:=Vm who (rows.zip own);rw[List.length_zip]at this;simp at*;omega
   have fin:∀(Hf:AH) (i1 i2:Nat),hx.length<=Hf.length->Hf[L]? =some (.loop .busy none li)->L<i1->L<i2->i1≠i2->Hf[i1]? =some (.bN (ae.length+1))->Hf[i2]? =some (.bN (ae.length+1))->(∀i<L,Hf[i]? =hx[i]?)->(∀i ob,L<i->Hf[i]? =some ob->∀st pe lj,ob≠ .loop st pe lj)->
     ((Hf.set (h.length+1) (.row [.sl (bD (ae.map Prod.snd)++bD [x.2]) (.bN i1)] 58)).set (h.length+2) (.row [.sl (dQ (ae.map Prod.fst)++dQ [x.1]) (.bN i2)] 30))[L]? =some (.loop .busy none li)/\
     (I (ae++[x]) (((Hf.set (h.length+1) (.row [.sl (bD (ae.map Prod.snd)++bD [x.2]) (.bN i1)] 58)).set (h.length+2) (.row [.sl (dQ (ae.map Prod.fst)++dQ [x.1]) (.bN i2)] 30)).set L (.loop .ready none li))\/AV.bool true= .bool false/\False):=fun Hf i1 i2 b0 b1 b2 b3 b4 b5 b6 b7 b8=>by
    have e1:bD (ae.map Prod.snd)++bD [x.2]=bD ((ae++[x]).map Prod.snd):=by simp[bD]
    have e2:dQ (ae.map Prod.fst)++dQ [x.1]=dQ ((ae++[x]).map Prod.fst):=by simp[dQ,encI]
    rw[e1,e2];refine⟨by rw[List.getElem?_set_ne (by omega),List.getElem?_set_ne (by omega)];exact b1,.inl ?_⟩;rw[hI];refine⟨by simp only[List.length_set];omega,by rw[List.getElem?_set_self (by simp only[List.length_set];omega)],⟨_,_,by rw[List.getElem?_set_ne (by omega),List.getElem?_set_ne (by omega),List.getElem?_set_self (by omega)],by rw[List.getElem?_set_ne (by omega),List.getElem?_set_self (by simp only[List.length_set];omega)],.inr ⟨i1,i2,rfl,rfl,b2,b3,b4,?_,?_⟩⟩,fun i hi n1 n2=>?_,fun i ob hi e=>?_⟩
    .rw[List.getElem?_set_ne (by omega),List.getElem?_set_ne (by omega),List.getElem?_set_ne (by omega),List.length_append];exact b5
    .rw[List.getElem?_set_ne (by omega),List.getElem?_set_ne (by omega),List.getElem?_set_ne (by omega),List.length_append];exact b6
    .rw[List.getElem?_set_ne (by omega),List.getElem?_set_ne (by omega),List.getElem?_set_ne (by omega),b7 i hi];exact q5 i hi n1 n2
    .rw[List.getElem?_set_ne (by omega),List.getElem?_set_ne (by omega),List.getElem?_set_ne (by omega)]at e;exact b8 i ob hi e
   rcases q4 with⟨rfl,rfl,rfl⟩|⟨i1,i2,rfl,rfl,a1,a2,a3,a4,a5⟩
   .simp(disch:=omega) only[go_sem,seval,f1];refine yU (Py []) (Py [x.2]) (by simp[bD]) (by simp[bD]) ?_;rw[show[AV.sl (encI x.2) .free]=bD [x.2]from rfl];obtain⟨H1,gJ⟩:∃H1:AH,H1=hx.set L (.loop .busy none li)++[.bN ((bD []).length+(bD [x.2]).length)]:=⟨_,rfl⟩;have Lp:H1[h.length+2]? =some (.row [.sl (dQ []) .full] 30):=by rw[gJ];exact eP _ f2
    have E8:H1[h.length+1]? =some (.row [.sl (bD []) .full] 58):=by rw[gJ];exact eP _ f1
    rw[<-gJ];simp(disch:=omega) only[go_sem,seval,Lp];refine yU (Pz []) (Pz [x.1]) (by simp[dQ,encI]) (by simp[dQ,encI]) ?_;rw[show[AV.int .i64 (x.1:Int)]=dQ [x.1]from rfl];obtain⟨H2,pI⟩:∃H2:AH,H2=H1++[.bN ((dQ []).length+(dQ [x.1]).length)]:=⟨_,rfl⟩;have Vo:H2[h.length+2]? =some (.row [.sl (dQ []) .full] 30):=by rw[pI];exact eP _ Lp
    have Vp:H2[h.length+1]? =some (.row [.sl (bD []) .full] 58):=by rw[pI];exact eP _ E8
    rw[<-pI];have Vq:∀o,(H2.set (h.length+1) o)[h.length+2]? =some (.row [.sl (dQ []) .full] 30):=fun o=>by rw[List.getElem?_set_ne (by omega)];exact Vo
    simp(disch:=omega) only[go_sem,seval,Vp,Vq];have s1:(hx.set L (.loop .busy none li)).length=hx.length:=List.length_set;have s2:H1.length=hx.length+1:=by rw[gJ,List.length_append,s1];rfl
    refine fin H2 (hx.set L (.loop .busy none li)).length H1.length (by rw[pI,List.length_append,s2];simp;omega) ?_ (by omega) (by omega) (by omega) ?_ ?_ (fun i hi=>?_) (fun i ob hi e=>?_)
    .rw[pI,List.getElem?_append_left (by omega),gJ,List.getElem?_append_left (by omega),List.getElem?_set_self q0]
    .rw[pI,List.getElem?_append_left (by omega),gJ,List.getElem?_append_right (Nat.le_refl _),Nat.sub_self];rfl
    .rw[pI,List.getElem?_append_right (Nat.le_refl _),Nat.sub_self];rfl
    .rw[pI,List.getElem?_append_left (by omega),gJ,List.getElem?_append_left (by omega),List.getElem?_set_ne (by omega)]
    .rw[pI,gJ,List.append_assoc,List.getElem?_append]at e;split at e
     .rw[List.getElem?_set_ne (by omega)]at e;exact q6 i ob hi e
     .have:=List.mem_of_getElem? e;simp at this;rcases this with rfl|rfl<;>simp
   .simp(disch:=omega) only[go_sem,seval,f1];refine yV (i:=i1) (by rw[List.getElem?_set_ne (by omega),jG,List.length_map];exact a4) (Py _) (Py [x.2]) (by simp[bD];omega) (by simp[bD];omega) ?_;obtain⟨H1,gJ⟩:∃H1:AH,H1=(hx.set L (.loop .busy none li)).set i1 (.bN ((bD (ae.map Prod.snd)).length+(bD [x.2]).length)):=⟨_,rfl⟩;have Lp:H1[h.length+2]? =some (.row [.sl (dQ (ae.map Prod.fst)) (.bN i2)] 30):=by rw[gJ,List.getElem?_set_ne (by omega)];exact f2
    have E8:H1[h.length+1]? =some (.row [.sl (bD (ae.map Prod.snd)) (.bN i1)] 58):=by rw[gJ,List.getElem?_set_ne (by omega)];exact f1
    rw[show[AV.sl (encI x.2) .free]=bD [x.2]from rfl,<-gJ];simp(disch:=omega) only[go_sem,seval,Lp];refine yV (i:=i2) (by rw[gJ,List.getElem?_set_ne (by omega),List.getElem?_set_ne (by omega),Vn,List.length_map];exact a5) (Pz _) (Pz [x.1]) (by simp[dQ,encI];omega) (by simp[dQ,encI];omega) ?_;obtain⟨H2,pI⟩:∃H2:AH,H2=H1.set i2 (.bN ((dQ (ae.map Prod.fst)).length+(dQ [x.1]).length)):=⟨_,rfl⟩;have Vo:H2[h.length+2]? =some (.row [.sl (dQ (ae.map Prod.fst)) (.bN i2)] 30):=by rw[pI,List.getElem?_set_ne (by omega)];exact Lp
    have Vp:H2[h.length+1]? =some (.row [.sl (bD (ae.map Prod.snd)) (.bN i1)] 58):=by rw[pI,List.getElem?_set_ne (by omega)];exact E8
    rw[show[AV.int .i64 (x.1:Int)]=dQ [x.1]from rfl,<-pI];have Vq:∀o,(H2.set (h.length+1) o)[h.length+2]? =some (.row [.sl (dQ (ae.map Prod.fst)) (.bN i2)] 30):=fun o=>by rw[List.getElem?_set_ne (by omega)];exact Vo
    simp(disch:=omega) only[go_sem,seval,Vp,Vq];have s1:i1<hx.length:=(List.getElem?_eq_some_iff.1 a4).1;have s2:i2<hx.length:=(List.getElem?_eq_some_iff.1 a5).1;refine fin H2 i1 i2 (by rw[pI,gJ];simp) (by rw[pI,gJ,List.getElem?_set_ne (by omega),List.getElem?_set_ne (by omega),List.getElem?_set_self q0]) a1 a2 a3 ?_ ?_ (fun i hi=>?_) (fun i ob hi e=>?_)
    .rw[pI,gJ,List.getElem?_set_ne (by omega),List.getElem?_set_self (by simp only[List.length_set];omega),jG,List.length_map];rfl
    .rw[pI,gJ,List.getElem?_set_self (by simp only[List.length_set];omega),Vn,List.length_map];rfl
    .rw[pI,gJ,List.getElem?_set_ne (by omega),List.getElem?_set_ne (by omega),List.getElem?_set_ne (by omega)]
    .rw[pI,gJ,List.getElem?_set]at e;split at e
     .split at e
      .cases e;simp
      .cases e
     .rw[List.getElem?_set]at e;split at e
      .split at e
       .cases e;simp
       .cases e
      .rw[List.getElem?_set_ne (by omega)]at e;exact q6 i ob hi e
  .rw[hI];refine⟨by simp;omega,by rw[hL];simp,⟨.full,.full,eP _ k1,eP _ k2,.inl ⟨rfl,rfl,rfl⟩⟩,fun i hi _ _=>List.getElem?_append_left (by omega),fun i ob hi e=>?_⟩;rw[List.getElem?_eq_none (by simp;omega)]at e;cases e
  .rintro _ h' (rf|hF);rotate_left
   .exact hF.elim
   rw[hI]at rf;obtain⟨q0,q1,⟨o1,o2,q2,q3,q4⟩,q5,q6⟩:=rf;refine⟨.ready,none,q1,fun i ob hi e=>?_,by simp,?_⟩
   .by_cases hiL:i<L
    .by_cases n1:i=h.length+1
     .grind
     grind
    .exact .inr (q6 i ob (by omega) e)
   .obtain⟨H3,yg⟩:∃H3,H3=h'.set L .dead:=⟨_,rfl⟩;have z1:H3[h.length+1]? =some (.row [.sl (bD ((mZ who (rows.zip own)).map Prod.snd)) o1] 58):=by rw[yg,List.getElem?_set_ne (by omega)];exact q2
    have z2:H3[h.length+2]? =some (.row [.sl (dQ ((mZ who (rows.zip own)).map Prod.fst)) o2] 30):=by rw[yg,List.getElem?_set_ne (by omega)];exact q3
    have z3:H3[h.length+3]? =some (.row (encI (nW d)) 3):=by rw[yg,List.getElem?_set_ne (by omega),q5 _ (by omega) (by omega) (by omega)];exact k3
    rw[<-yg,Cf];have zs1:H3.set (h.length+1) (.row [.sl (bD ((mZ who (rows.zip own)).map Prod.snd)) o1] 58)=H3:=ph z1;have zs2:H3.set (h.length+2) (.row [.sl (dQ ((mZ who (rows.zip own)).map Prod.fst)) o2] 30)=H3:=ph z2;refine aU ?_;refine gO ?_;simp(disch:=omega) only[go_sem,seval,z1,z2,zs1,zs2];have hf:=aeL (K:=h.length+3) (l:=nW d) (n:=d) (by simp[nW]);refine⟨h.length+3,_,_,_,z3,jM.set z3,Ll fun i hi=>?_,?_⟩
    .rw[List.getElem?_set_ne (by omega),yg,List.getElem?_set_ne (by omega),q5 i (by omega) (by omega) (by omega),E7,hK,List.append_assoc,List.getElem?_append_left hi]
    .rw[lQ,dd];simp only[fB];rw[hf];simp only[dd,aeK,asl];simp only[loose,eI,J_,rL,asm,and_true];exact .tuple' (bB.cons (wm _ _) (bB.cons (of_eq_true (Fr.pZ _ _)) (bB.cons (of_eq_true (Fr.pZ _ _)) (bB.cons (.int _ _) (bB.nil _)))))
def m_(rows:List (List Int))(own who:List Int):List (List Int):=(mZ who (rows.zip own)).map Prod.snd
theorem aeO{rows own who r}(h:r∈m_ rows own who):r∈rows:=by obtain⟨⟨i,r'⟩,h0,rfl⟩:=List.mem_map.1 h;obtain⟨⟨⟨r2,n⟩,i2⟩,h3,e⟩:=List.mem_map.1 h0;grind
theorem ast{who L p}(h:p∈mZ who L):p.1<L.length:=by obtain⟨⟨⟨r2,n⟩,i2⟩,h3,rfl⟩:=List.mem_map.1 h;grind
theorem aeP{d}:yc d (nW d):=⟨by simp[nW],E6.set (fun x hx=>by grind) (by decide)⟩
theorem asu{K n l}(h:l.length=n):dd K (encI l) (.tuple [.ms K 0 n n 1,.bool true,.int .i64 0])= .tuple [.sl (encI l) .free,.bool true,.int .i64 0]:=by rw[dd];simp only[fB];rw[aeL h];simp only[dd]
theorem asv(l):loose (.tuple [.sl (encI l) .free,.bool true,.int .i64 0])= .tuple [.sl (encI l) .free,.bool true,.int .i64 0]:=by simp only[loose,eI,rL]
theorem asw(n l):RB n (.tuple [.sl (encI l) .free,.bool true,.int .i64 0]):= .tuple' (bB.cons (of_eq_true (Fr.pZ _ _)) (bB.cons (.bool _) (bB.cons (.int _ _) (bB.nil _))))
theorem asx(n):RB n (.tuple [.sl [] .free,.bool false,.int .i64 0]):= .tuple' (bB.cons (of_eq_true (Fr.pZ _ [])) (bB.cons (.bool _) (bB.cons (.int _ _) (bB.nil _))))
theorem aeQ{P Γ f args h A B n}
  (H:az P Γ f args h fun v h'=>∃j,h'=h++j/\((A/\∃(q:Nat) (y:List Int) (T:TypeId),y.length=n/\j[q]? =some (.row (encI y) T)/\v= .tuple [.ms (h.length+q) 0 n n 1,.bool true,.int .i64 0])\/(B/\v= .tuple [.sl [] .full,.bool false,.int .i64 0]))):
  az P Γ f args h fun v h'=>h'=h/\((A/\∃y,y.length=n/\v= .tuple [.sl (encI y) .free,.bool true,.int .i64 0])\/(B/\v= .tuple [.sl [] .free,.bool false,.int .i64 0])):=by
 refine az.aly (H.mono ?_);rintro v h' ⟨j,rfl,⟨hA,q,y,T,hy,hj,rfl⟩|⟨hB,rfl⟩⟩
 .refine⟨⟨j,rfl⟩,.inr ⟨q,encI y,T,by grind,?_⟩⟩;rw[asu hy,asv];exact⟨asw _ _,.inl ⟨hA,y,hy,rfl⟩⟩
 .exact⟨⟨j,rfl⟩,.inl ⟨asx _,.inr ⟨hB,rfl⟩⟩⟩
theorem asy(Γ d rows own who h)(H:Lo d rows own)(h1:rows=[]->d=1)(hw:iS who=true):
  az Tryz.prog Γ 48 [mY rows own,.sl (encI who) .free] h fun v h'=>h'=h/\((Sep (kT (m_ rows own who)) (m_ rows own who).length d (kR (nW d))/\∃y,y.length=d/\v= .tuple [.sl (encI y) .free,.bool true,.int .i64 0])\/(¬Sep (kT (m_ rows own who)) (m_ rows own who).length d (kR (nW d))/\v= .tuple [.sl [] .free,.bool false,.int .i64 0])):=by
 have c1:=fun h=>aeM Γ d rows own who h H h1 hw;have hl:(m_ rows own who).length<=64:=by have:=Vm who (rows.zip own);have:=H.lr;rw[List.length_zip]at*;rw[m_,List.length_map];omega
 rw[mY,vz]at*;refine aeQ ?_;refine cY [.tmp 4,.tmp 5,.tmp 6] Tryz.func48 ?_;refine bL (c1 _) ?_;refine(ar5 Γ d (m_ rows own who) (nW d) _ H.d64 H.d0 (fun r hr=>H.rq r (aeO hr)) hl aeP).mono ?_;rintro _ _ ⟨j,rfl,⟨hA,q,y,hy,hj,rfl⟩|⟨hA,rfl⟩⟩
 .refine aU ?_;refine⟨.row [.sl (bD rows) .free,.sl (encI own) .free] 90::j,by simp,.inl ⟨hA,q+1,y,_,hy,hj,?_⟩⟩;simp;omega
 .refine aU ?_;exact⟨_,rfl,.inr hA⟩
theorem asz(Γ d rows own who h)(H:Lo d rows own)(h1:rows=[]->d=1)(hw:iS who=true):
  az Tryz.prog Γ 47 [mY rows own,.sl (encI who) .free] h fun v h'=>h'=h/\((K6 (kT (m_ rows own who)) (m_ rows own who).length d (kR (nW d))/\∃y,y.length=rows.length/\v= .tuple [.sl (encI y) .free,.bool true,.int .i64 0])\/(Sep (kT (m_ rows own who)) (m_ rows own who).length d (kR (nW d))/\v= .tuple [.sl [] .free,.bool false,.int .i64 0])):=by
 have c1:=fun h=>aeM Γ d rows own who h H h1 hw;have hl:(m_ rows own who).length<=64:=by have:=Vm who (rows.zip own);have:=H.lr;rw[List.length_zip]at*;rw[m_,List.length_map];omega
 have O5:=H.lr;have vJ:=H.lo;rw[mY,vz]at*;refine aeQ ?_;refine cY [.tmp 4,.tmp 5,.tmp 6] Tryz.func47 ?_;refine bL (c1 _) ?_;refine(arW Γ d (m_ rows own who) (nW d) _ H.d64 H.d0 (fun r hr=>H.rq r (aeO hr)) hl aeP).mono ?_;rintro _ _ ⟨j,rfl,⟨hA,q,y,hy,hj,rfl⟩|⟨hA,rfl⟩⟩
 .simp(disch:=omega) only[go_sem,seval,jG,Vn];refine⟨by omega,by omega,by omega,?_⟩;rw[Pv];obtain⟨K,hK⟩:∃K:AH,K=h++ .row [.sl (bD rows) .free,.sl (encI own) .free] 90::j:=⟨_,rfl⟩;obtain⟨at_,yW⟩:∃at_,at_=(mZ who (rows.zip own)).map Prod.fst:=⟨_,rfl⟩;have aCI:at_.length=y.length:=by rw[hy,yW,m_,List.length_map,List.length_map]
  have asA:∀i∈at_,i<rows.length:=fun i hi=>by rw[yW]at hi;obtain⟨p,hp,rfl⟩:=List.mem_map.1 hi;have:=ast hp;rw[List.length_zip]at this;omega
  have gy:K[h.length+1+q]? =some (.row (encI y) 3):=by rw[hK,List.getElem?_append_right (by omega),show h.length+1+q-h.length=q+1 by omega];exact hj
  rw[show h++cO.row [.sl (bD rows) .free,.sl (encI own) .free] 90::(j++[.row (encI (List.replicate rows.length 0)) 3])=K++[.row (encI (List.replicate rows.length 0)) 3]by rw[hK];simp,<-yW];have lQ:K.length=h.length+(j.length+1):=by rw[hK];simp
  have kK:(mZ who (rows.zip own)).length=at_.length:=by rw[yW,List.length_map]
  have gK:∀w:List Int,(K++[cO.row (encI w) 3])[h.length+(j.length+1)]? =some (.row (encI w) 3):=fun w=>by rw[<-lQ];simp
  have sK:∀w w':List Int,(K++[cO.row (encI w) 3]).set (h.length+(j.length+1)) (.row (encI w') 3)=K++[.row (encI w') 3]:=fun w w'=>by rw[<-lQ];simp
  refine d_ (β:=List Int) at_ [4,10,42,43,44] (fun ae _=>[(4,.ms (h.length+(j.length+1)) 0 rows.length rows.length 1),(10,.ms (h.length+1+q) 0 (m_ rows own who).length (m_ rows own who).length 1),(42,.sl (dQ at_) .free),(43,.int .i64 at_.length),(44,.int .i64 ae.length)]) (fun w=>K++[.row (encI w) 3]) (fun _ _ w=>w.length=rows.length) (List.replicate rows.length 0) ?_ rfl (by simp) ?_ ?_
  .simp(disch:=omega) only[go_sem,seval,kK]
  .rintro ae x r w hd Ab;have bT:ae.length<at_.length:=by rw[hd];simp
   have hx:at_[ae.length]? =some x:=by rw[hd];simp
   have RN:=asA x (List.mem_of_getElem? hx);obtain⟨z,hz⟩:∃z,y[ae.length]? =some z:=⟨_,List.getElem?_eq_getElem (by omega)⟩;obtain⟨z2,rA⟩:=rowAt hz [];rw[List.append_nil]at rA;have gy2:=eP [cO.row (encI w) 3] gy;refine aU ?_;refine aJ.pos (by omega) ?_;simp(disch:=omega) only[go_sem,seval,Vg hx,gy2,Nat.zero_add,Nat.mul_one,Int.toNat_natCast,rA,gK];refine⟨by omega,by omega,by rw[cc];omega,?_⟩;exact cd (w.set x z) (by rw[List.length_set];exact Ab) (by rw[List.length_append,List.length_singleton];rfl) (by rw[Lm,sK])
  .rintro w Ab;refine aU ?_;refine fE [4] ?_;exact⟨.row [.sl (bD rows) .free,.sl (encI own) .free] 90::(j++[.row (encI w) 3]),by rw[hK];simp,.inl ⟨hA,j.length+1,w,3,Ab,by simp,rfl⟩⟩
 .refine aU ?_;exact⟨_,rfl,.inr hA⟩
theorem getLast_cons(x:Int)(l a):(x::l).getLast?.getD a=l.getLast?.getD x:=by grind
theorem aeR(n:Int):∀(m:Nat) (acc:Int) (ae:List Int) (y:Int) (r:List Int),mE n m acc=ae++y::r->y=jS (ae.getLast?.getD acc) n
 |0,acc,ae,y,r,h=>by rw[mE]at h;simp at h
 |m+1,acc,[],y,r,h=>by rw[mE]at h;simp at h;exact h.1.symm
 |m+1,acc,d::ae,y,r,h=>by rw[mE]at h;simp only[List.cons_append,List.cons.injEq]at h;rw[getLast_cons,<-h.1];exact aeR n m _ ae y r h.2
def Vr(n m:Int):AV:= .func 164 [] [.bS [.int .i64 m],.bS [.int .i64 n]]
theorem asD(Γ n m h):AC Γ 111 [.int .i64 n,.int .i64 m] h (Vr n m):=by
 rw[Vr];refine az.ji ?_;refine az.freeze ?_;refine az.freeze ?_;refine cY [.tmp 4] Tryz.func111 ?_;have e1:∀a b:cO,(h++[a,b])[h.length]? =some a:=fun a b=>by simp
 have e2:∀a b:cO,((h++[a,b]).set h.length .frozen)[h.length+1]? =some b:=fun a b=>by grind
 have e4:∀a b:cO,∃l,((h++[a,b]).set h.length .frozen).set (h.length+1) .frozen=h++l:=fun a b=>⟨[.frozen,.frozen],by simp_all⟩;refine⟨h.length,_,_,_,e1 _ _,jM.set (e1 _ _),h.length+1,_,_,_,e2 _ _,jM.set (e2 _ _),e4 _ _,?_⟩;simp only[dd,fB,if_true,List.drop_zero];rw[if_neg (by omega)];simp only[dd,if_true,List.drop_zero,loose,and_true];exact .func (bB.nil _) (bB.cons (.bS (bB.cons (.int _ _) (bB.nil _))) (bB.cons (.bS (bB.cons (.int _ _) (bB.nil _))) (bB.nil _)))
theorem asE(Γ n)(m:Nat)(hn:0<=n/\n<=1000000)(hm:m<=1000000):
  NN Tryz.prog Γ 164 [.bS [.int .i64 (m)],.bS [.int .i64 n]] (fun x=>[.int .i64 x]) (mE n m 1):=by
 intro L I S hh HA HS HY hI;have ko:=G8 n m 1;refine cY [] Tryz.func164 ?_;refine JQ (mE n m 1) [0,1,2,4,5,6] (fun ae=>[(0,.yield L),(1,.bS [.int .i64 (m:Int)]),(2,.bS [.int .i64 n]),(4,.int .i64 (ae.getLast?.getD 1)),(5,.int .i64 (m:Int)),(6,.int .i64 ae.length)])
  (fun ae _ h=>I ae h) ?_ hI ?_ ?_
 .refine aU ?_;rfl
 .rintro ae y r h hd uZ;have hlen:m=ae.length+1+r.length:=by rw[<-ko,hd];simp;omega
  have hy:=aeR n m 1 ae y r hd;have nj:0<=ae.getLast?.getD 1/\ae.getLast?.getD 1<1073741789:=by
   cases hg:ae.getLast? with
   |none=>decide
   |some z=>exact UW n m 1 z (by grind)
  refine cI ?_;refine cI ?_;refine bu (aJ.pos (by omega)) ?_;refine fR (jZ ?_);refine cI ?_;refine az.cv (CX Γ _ _ _ (by omega) (by omega)) ?_;rw[<-hy];refine aU ?_;refine gR ?_;refine(HY _ y r _ hd uZ).mono ?_;rintro w h2 (⟨rfl,Ae⟩|⟨rfl,Cr⟩)<;>simp(disch:=omega) only[go_sem,seval]
  .refine gO ?_;simp(disch:=omega) only[go_sem,seval,List.length_append,List.getLast?_append,List.getLast?_singleton,Option.some_or,Option.getD_some];exact Ae
  .exact .inr Cr
 .rintro h uZ;refine gO ?_;simp(disch:=omega) only[go_sem,seval,ko];exact .inl uZ
def LO{α:Type}(enc:α->List AV)(T:TypeId)(h:AH)(v:AV)(l:List α):Prop:=(v= .sl [] .full/\l=[])\/∃q,za enc 1 0 q h T v l
def kH:AV->Option Nat
 | .ms i _ _ _ _=>some i
 |_=>none
theorem LO.keep{α enc T h h' v}{l:List α}(H:LO enc T h v l)(hk:∀i,kH v=some i->h'[i]? =h[i]?):LO enc T h' v l:=by
 rcases H with H|⟨q,c,pad,rfl,h2,h3,h4⟩
 .exact .inl H
 .refine .inr ⟨q,c,pad,rfl,?_,h3,h4⟩;have:=hk (0+q) rfl;grind
theorem LO.lt{α enc T h v}{l:List α}(H:LO enc T h v l){i}(hi:kH v=some i):i<h.length:=by
 rcases H with⟨rfl,_⟩|⟨q,c,pad,rfl,h2,h3,h4⟩
 .cases hi
 .cases hi;grind
theorem LO.app{α enc}{T by_:Nat}{hz v l}(H:LO enc T hz v l)(h1:∀x,(enc x).length=1)(x:α)(hf:flat (enc x)=enc x)(hr:db 1 (enc x))(hl:l.length<=1000)(hb:by_<=1000){o z Q}
  (HQ:∀v' oF,LO enc T oF v' (l++[x])->hz.length<=oF.length->(∀i<hz.length,kH v≠some i->oF[i]? =hz[i]?)->(∀i<hz.length,kH v'=some i->kH v=some i)->(∃i c,v'= .ms i 0 (l.length+1) c 1)->Q v' oF):uH (some (1,by_,z,T)) v (.sl (enc x) o) hz Q:=by
 obtain⟨q,hq,U_⟩:∃q,((v= .sl [] .full/\l=[])\/za enc 1 0 q hz T v l)/\∀i<hz.length,i=q->kH v=some i:=by
  rcases H with H|⟨q,H⟩
  .exact⟨hz.length,.inl H,fun i hi e=>by omega⟩
  .refine⟨q,.inr H,fun i _ e=>?_⟩;obtain⟨c,pad,rfl,_⟩:=H;rw[e,kH,Nat.zero_add]
 refine SO (enc:=enc) (n:=1) (l:=l) (l2:=[x]) (v:=v) (x:= .sl (enc x) o) (ys:=enc x) (h:=[]) (j:=hz) (q:=q) (T:=T) (by_:=by_) (z:=z) (Q:=Q) h1 (by decide) hq rfl hr (by rw[hf];simp) (by rw[h1];rfl) (by simp) (by simp;omega) ?_ fun v' q' j' ho j7 hk A4 hr=>?_
 .have:(l.length+[x].length)*by_<=1001*1000:=Nat.mul_le_mul (by simp;omega) hb;omega
 .rw[List.nil_append];obtain⟨c,pad,e1,e2,e3,e4⟩:=ho;refine HQ v' j' (.inr ⟨q',c,pad,e1,e2,e3,e4⟩) j7 (fun i hi hn=>hk i hi fun e=>hn (U_ i hi e)) (fun i hi e=>?_) ⟨0+q',c,by rw[e1];simp⟩;rw[e1,kH,Option.some.injEq,List.length_nil,Nat.zero_add]at e;grind
def PA(r:List Int):List AV:=[.sl (encI r) .full]
def Lq(P C F:Nat):AV:= .func 110 [] [.ptr (some (P,0)),.ptr (some (C,0)),.ptr (some (F,0))]
structure Mk(P C F:Nat)(s:th)(u o:AV)(h:AH):Prop where
 prog:h[P]? =some (.row [u,o] 90)
 col:h[C]? =some (.row [.int .i64 s.cN] 3)
 fn:h[F]? =some (.row [Lq P C F] 171)
 a:LO PA 30 h u (s.rows.map Prod.fst)
 b:LO Ht 3 h o (s.rows.map Prod.snd)
 na:∀i,kH u=some i->i≠P/\i≠C/\i≠F/\kH o≠some i
 nb:∀i,kH o=some i->i≠P/\i≠C/\i≠F
 pc:P≠C/\P≠F/\C≠F
structure Kp(P C:Nat)(u o u' o':AV)(h h':AH):Prop where
 len:h.length<=h'.length
 kp:∀i<h.length,i≠P->i≠C->kH u≠some i->kH o≠some i->h'[i]? =h[i]?
 ua:∀i<h.length,kH u'=some i->kH u=some i
 ob:∀i<h.length,kH o'=some i->kH o=some i
theorem Kp.refl(P C u o h):Kp P C u o u o h h:=⟨Nat.le_refl _,fun _ _ _ _ _ _=>rfl,fun _ _ e=>e,fun _ _ e=>e⟩
theorem Kp.trans{P C u o u1 o1 u2 o2 h h1 h2}(A:Kp P C u o u1 o1 h h1)(B:Kp P C u1 o1 u2 o2 h1 h2):Kp P C u o u2 o2 h h2:=by have hl:=A.len;exact⟨Nat.le_trans A.len B.len,fun i hi h1 h2 h3 h4=>(B.kp i (by omega) h1 h2 (fun e=>h3 (A.ua i hi e)) fun e=>h4 (A.ob i hi e)).trans (A.kp i hi h1 h2 h3 h4),fun i hi e=>A.ua i hi (B.ua i (by omega) e),fun i hi e=>A.ob i hi (B.ob i (by omega) e)⟩
theorem Kp.more{P C u o u1 o1 h h1}(A:Kp P C u o u1 o1 h h1)(l):Kp P C u o u1 o1 h (h1++l):=by have hl:=A.len;exact⟨by simp;omega,fun i hi q1 q2 q3 q4=>by rw[List.getElem?_append_left (by omega)];exact A.kp i hi q1 q2 q3 q4,A.ua,A.ob⟩
theorem Mk.keep{P C F s u o h h'}(H:Mk P C F s u o h)(hk:∀(i) (ob),h[i]? =some ob->i=P\/i=C\/i=F\/kH u=some i\/kH o=some i->h'[i]? =some ob):Mk P C F s u o h':=by
 refine⟨hk _ _ H.prog (.inl rfl),hk _ _ H.col (.inr (.inl rfl)),hk _ _ H.fn (.inr (.inr (.inl rfl))),H.a.keep fun i hi=>?_,H.b.keep fun i hi=>?_,H.na,H.nb,H.pc⟩
 .have e:=List.getElem?_eq_getElem (H.a.lt hi);grind
 .have e:=List.getElem?_eq_getElem (H.b.lt hi);grind
theorem Mk.more{P C F s u o h}(H:Mk P C F s u o h)(l):Mk P C F s u o (h++l):=H.keep fun i ob e _=>eP _ e
theorem Mk.asF{P C F s u o h}(H:Mk P C F s u o h)(c):Mk P C F ⟨s.rows,c⟩ u o (h.set C (.row [.int .i64 c] 3)):=by
 have hC:=(List.getElem?_eq_some_iff.1 H.col).1;obtain⟨p1,p2,p3⟩:=H.pc;refine⟨by rw[List.getElem?_set_ne (Ne.symm p1)];exact H.prog,List.getElem?_set_self hC,by rw[List.getElem?_set_ne p3];exact H.fn,H.a.keep fun i hi=>?_,H.b.keep fun i hi=>?_,H.na,H.nb,H.pc⟩
 .rw[List.getElem?_set_ne (Ne.symm (H.na i hi).2.1)]
 .rw[List.getElem?_set_ne (Ne.symm (H.nb i hi).2.1)]
structure M2(P C F:Nat)(u o cu co pu po:AV)(lu:List (List Int))(lo:List Int)(h h':AH):Prop where
 prog:h'[P]? =some (.row [pu,po] 90)
 a:LO PA 30 h' cu lu
 b:LO Ht 3 h' co lo
 na:∀i,kH cu=some i->i≠P/\i≠C/\i≠F/\kH co≠some i
 nb:∀i,kH co=some i->i≠P/\i≠C/\i≠F
 kp:Kp P P u o cu co h h'
theorem Mk.two{P C F s u o h}(H:Mk P C F s u o h):M2 P C F u o u o u o (s.rows.map Prod.fst) (s.rows.map Prod.snd) h h:=⟨H.prog,H.a,H.b,H.na,H.nb,Kp.refl ..⟩
theorem M2.one{P C F s s' u o cu co h h'}(H:Mk P C F s u o h)(H2:M2 P C F u o cu co cu co (s'.rows.map Prod.fst) (s'.rows.map Prod.snd) h h')(hs:s'.cN=s.cN):Mk P C F s' cu co h'/\Kp P C u o cu co h h':=by
 obtain⟨p1,p2,p3⟩:=H.pc;have lt:∀{i ob},h[i]? =some ob->i<h.length:=fun e=>(List.getElem?_eq_some_iff.1 e).1;refine⟨⟨H2.prog,?_,?_,H2.a,H2.b,H2.na,H2.nb,H.pc⟩,⟨H2.kp.len,fun i hi a _ c d=>H2.kp.kp i hi a a c d,H2.kp.ua,H2.kp.ob⟩⟩
 .rw[H2.kp.kp C (lt H.col) (Ne.symm p1) (Ne.symm p1) (fun e=>(H.na _ e).2.1 rfl) fun e=>(H.nb _ e).2.1 rfl,hs];exact H.col
 .rw[H2.kp.kp F (lt H.fn) (Ne.symm p2) (Ne.symm p2) (fun e=>(H.na _ e).2.2.1 rfl) fun e=>(H.nb _ e).2.2 rfl];exact H.fn
theorem M2.put{P C F u o cu co pu po pu' po' lu lo h h'}(H:M2 P C F u o cu co pu po lu lo h h'):M2 P C F u o cu co pu' po' lu lo h (h'.set P (.row [pu',po'] 90)):=by
 have hP:=(List.getElem?_eq_some_iff.1 H.prog).1;refine⟨List.getElem?_set_self hP,H.a.keep fun i hi=>?_,H.b.keep fun i hi=>?_,H.na,H.nb,?_⟩
 .rw[List.getElem?_set_ne (Ne.symm (H.na i hi).1)]
 .rw[List.getElem?_set_ne (Ne.symm (H.nb i hi).1)]
 .exact⟨by rw[List.length_set];exact H.kp.len,fun i hi a b c d=>by rw[List.getElem?_set_ne (Ne.symm a)];exact H.kp.kp i hi a b c d,H.kp.ua,H.kp.ob⟩
theorem M2.asG{P C F u o cu co pu po lu lo h h'}(H:M2 P C F u o cu co pu po lu lo h h')(hP:P<h.length)(hC:C<h.length)(hF:F<h.length)(v)(hl:lu.length<=1000){ow z Q}
  (HQ:∀v' oF,M2 P C F u o v' co pu po (lu++[v]) lo h oF->(∃i c,v'= .ms i 0 (lu.length+1) c 1)->Q v' oF):uH (some (1,24,z,30)) cu (.sl [.sl (encI v) .full] ow) h' Q:=by
 have hlen:=H.kp.len;refine H.a.app (fun _=>rfl) v rfl (fun r hr=>by rw[PA,List.mem_singleton]at hr;subst hr;exact⟨rfl,fun c hc=>by simp[AV.cells]at hc;subst hc;rfl⟩) hl (by decide) fun v' oF q1 q2 q3 q4 q5=>HQ v' oF ⟨?_,q1,H.b.keep fun i hi=>?_,fun i hi=>?_,H.nb,⟨by omega,fun i hi a b c d=>?_,fun i hi e=>?_,H.kp.ob⟩⟩ q5
 .rw[q3 P (by omega) fun e=>(H.na _ e).1 rfl];exact H.prog
 .exact q3 i (H.b.lt hi) fun e=>(H.na i e).2.2.2 hi
 .by_cases hh:i<h'.length
  .exact H.na i (q4 i hh hi)
  .exact⟨by omega,by omega,by omega,fun e=>hh (H.b.lt e)⟩
 .rw[q3 i (by omega) fun e=>c (H.kp.ua i hi e)];exact H.kp.kp i hi a b c d
 .exact H.kp.ua i hi (q4 i (by omega) e)
theorem M2.asH{P C F u o cu co pu po lu lo h h'}(H:M2 P C F u o cu co pu po lu lo h h')(hP:P<h.length)(hC:C<h.length)(hF:F<h.length)(n)(hl:lo.length<=1000){ow z Q}
  (HQ:∀v' oF,M2 P C F u o cu v' pu po lu (lo++[n]) h oF->Q v' oF):uH (some (1,8,z,3)) co (.sl [.int .i64 n] ow) h' Q:=by
 have hlen:=H.kp.len;refine H.b.app (fun _=>rfl) n rfl (db.int [n]) hl (by decide) fun v' oF q1 q2 q3 q4 q5=>HQ v' oF ⟨?_,H.a.keep fun i hi=>?_,q1,fun i hi=>?_,fun i hi=>?_,⟨by omega,fun i hi a b c d=>?_,H.kp.ua,fun i hi e=>?_⟩⟩
 .rw[q3 P (by omega) fun e=>(H.nb _ e).1 rfl];exact H.prog
 .exact q3 i (H.a.lt hi) fun e=>(H.na i hi).2.2.2 e
 .obtain⟨n1,n2,n3,n4⟩:=H.na i hi;exact⟨n1,n2,n3,fun e=>n4 (q4 i (H.a.lt hi) e)⟩
 .by_cases hh:i<h'.length
  .exact H.nb i (q4 i hh hi)
  omega
 .rw[q3 i (by omega) fun e=>d (H.kp.ob i hi e)];exact H.kp.kp i hi a b c d
 .exact H.kp.ob i hi (q4 i (by omega) e)
def TC(Γ:GG)(P C F:Nat)(g:Gt):Prop:=∀(v:List Int) (s:th) (u o:AV) (hz:AH),Mk P C F s u o hz->v.length<=s.cN->s.cN<=64->s.rows.length<=64->
 az Tryz.prog Γ 110 [bM g,.sl (encI v) .full,.ptr (some (P,0)),.ptr (some (C,0)),.ptr (some (F,0))] hz fun w h'=>w= .bool (mG g v s).1/\∃u' o',Mk P C F (mG g v s).2 u' o' h'/\Kp P C u o u' o' hz h'
theorem asI(Γ P C F p n l)(hp:0<=p):TC Γ P C F (.mk p n l):=by
 intro v s u o hz H hv hc hr;have lt:∀{i ob},hz[i]? =some ob->i<hz.length:=fun e=>(List.getElem?_eq_some_iff.1 e).1;have hP:=lt H.prog;have hC:=lt H.col;have hF:=lt H.fn;rw[mG,if_pos hp];refine tO [.tmp 7] Tryz.func110 ?_;refine bw.Ry (by decide) ?_;rw[iu];refine cI ?_;refine fR ?_;refine cI ?_;refine uB (b:=true) ?_ (fun _=>?_) (fun e=>by cases e)
 .refine aU ?_;rw[decide_eq_true hp]
 refine fR ?_;obtain⟨K,hK⟩:∃K:AH,K=hz++[.row [.int .i64 p,.int .i64 n,.sl (l.map bM) .free] 49]:=⟨_,rfl⟩;rw[<-hK];have M0:Mk P C F s u o K:=by rw[hK];exact H.more _
 refine bu (bw.keep [1,2,5,1000001]) ?_;obtain⟨mV,tm⟩:∃mV:Tm,mV=[(1,.sl (encI v) .full),(2,.ptr (some (P,0))),(5,.ptr (some (hz.length,0))),(1000001,.tuple [])]:=⟨_,rfl⟩;rw[<-tm];have gb:K[hz.length]? =some (.row [.int .i64 p,.int .i64 n,.sl (l.map bM) .free] 49):=by rw[hK];simp
 have lQ:hz.length<K.length:=by rw[hK];simp
 obtain⟨val,c_⟩:∃val:Nat->AV,val=fun q=>[.ptr (some (P,0)),u,.sl (encI v) .full,.sl [.sl (encI v) .full] .full,.top,.ptr (some (P,1)),o,.ptr (some (hz.length,0)),.int .i64 p,.sl [.int .i64 p] .full,.top,.ptr (some (P,0)),.top,.ptr (some (P,1))].getD q .top:=⟨_,rfl⟩;obtain⟨td,ff⟩:∃td:Nat->Nat,td=fun i=>if i<=10 then 17+i else if i=11 then 28 else 29:=⟨_,rfl⟩
 obtain⟨Iv,lz⟩:∃Iv:List Nat->Tm->AH->Prop,Iv=fun done σ h'=>(∀t,t<17\/29<t->lk σ t=lk mV t)/\(∀i∈done,i<14->i≠4->i≠10->i≠12->lk σ (td i)=val i)/\(4∈done->∃i c,lk σ 21= .ms i 0 (s.rows.length+1) c 1)/\
  M2 P C F u o (if 4∈done then lk σ 21 else u) (if 10∈done then lk σ 27 else o) (if 12∈done then lk σ 21 else u) (if 14∈done then lk σ 27 else o) (if 4∈done then s.rows.map Prod.fst++[v]else s.rows.map Prod.fst) (if 10∈done then s.rows.map Prod.snd++[p]else s.rows.map Prod.snd) K h':=⟨_,rfl⟩
 have gK:∀h',Kp P P u o u o K h'->h'[hz.length]? =some (.row [.int .i64 p,.int .i64 n,.sl (l.map bM) .free] 49):=fun h' k=>by rw[k.kp _ lQ (by omega) (by omega) (fun e=>by have:=H.a.lt e;omega) (fun e=>by have:=H.b.lt e;omega)];exact gb
 have ki:∀(i:Nat) (done:List Nat) (σ:Tm) (h':AH) (w:AV) (t:Nat),i<14->i≠4->i≠10->i≠12->t=td i->w=val i->Iv done σ h'->i∉done->Iv (i::done) (put (some t) w σ) h':=fun i done σ h' w t hi n4 n10 n12 ht hw hI dy=>by
  subst hw ht;rw[lz]at hI|-;obtain⟨a1,a2,a3,a4⟩:=hI;have n21:21≠td i:=by rw[ff];simp only;split<;>(try split)<;>omega
  have n27:27≠td i:=by rw[ff];simp only;split<;>(try split)<;>omega
  have h17:17<=td i/\td i<=29:=by rw[ff];simp only;split<;>(try split)<;>omega
  refine⟨fun t ht=>(kU (by omega) _ _).trans (a1 t ht),fun j hj j1 j2 j3 j4=>?_,fun h4=>?_,?_⟩
  .rcases List.mem_cons.1 hj with rfl|hj
   .rw[y_]
   .have qu:j≠i:=fun e=>dy (e▸hj);rw[kU (by grind)];exact a2 j hj j1 j2 j3 j4
  .rw[kU n21];grind
  .have e4:(4∈i::done)<->4∈done:=by simp;omega
   have Bo:(10∈i::done)<->10∈done:=by simp;omega
   have E9:(12∈i::done)<->12∈done:=by simp;omega
   have E_:(14∈i::done)<->14∈done:=by simp;omega
   simp only[e4,Bo,E9,E_];rw[kU n21,kU n27];exact a4
 refine N7 [[],[0],[],[2],[1,3],[],[5],[],[7],[8],[6,9],[],[4,11],[],[10,13]] Iv Ty.mixed (by kernel_rfl) (by kernel_rfl) (by kernel_rfl) ?_ ?_ ?_
 .rw[lz];refine⟨fun _ _=>rfl,by simp,by simp,?_⟩;simpa using M0.two
 .intro i op ho done σ h' hI dr dG dy Q hQ;have gT:=hI;rw[lz]at hI;obtain⟨a1,a2,a3,a4⟩:=hI;have b1:lk σ 1= .sl (encI v) .full:=(a1 1 (by omega)).trans (by rw[tm];rfl);have b2:lk σ 2= .ptr (some (P,0)):=(a1 2 (by omega)).trans (by rw[tm];rfl);have b5:lk σ 5= .ptr (some (hz.length,0)):=(a1 5 (by omega)).trans (by rw[tm];rfl);have Ps:mB σ=true:=by rw[mB,a1 1000001 (by omega),tm];rfl
  have Pt:mF σ=false:=by rw[mF,a1 1000000 (by omega),tm];rfl
  have kk:h'[hz.length]? =some (.row [.int .i64 p,.int .i64 n,.sl (l.map bM) .free] 49):=by rw[a4.kp.kp _ lQ (by omega) (by omega) (fun e=>by have:=H.a.lt e;omega) (fun e=>by have:=H.b.lt e;omega)];exact gb
  have vv:∀(j t:Nat) (w:AV),j∈done->j<14/\j≠4/\j≠10/\j≠12->t=td j->w=val j->lk σ t=w:=fun j t w h1 h2 h3 h4=>by grind
  have fin:∀(j:Nat) (w:AV) (t:Nat),i=j->j<14->j≠4->j≠10->j≠12->t=td j->w=val j->Iv (i::done) (put (some t) w σ) h':=fun j w t e q1 q2 q3 q4 q5 q6=>by grind
  rcases i with _|_|_|_|_|_|_|_|_|_|_|_|_|_|_|i;all_goals simp only[List.getElem?_toArray,List.getElem?_cons_zero,List.getElem?_cons_succ,Option.some.injEq,List.getElem?_nil,reduceCtorEq,Nat.zero_add,Nat.reduceAdd]at ho
  all_goals subst ho
  all_goals rw[AP]
  .simp(disch:=omega) only[go_sem,seval,b2];exact hQ _ _ (fin 0 _ _ rfl (by omega) (by omega) (by omega) (by omega) (by rw[ff];rfl) (by rw[c_];rfl))
  .have v0:lk σ 17= .ptr (some (P,0)):=vv 0 _ _ (dr 0 (by decide)) (by decide) (by rw[ff];rfl) (by rw[c_];rfl);have h4:4∉done:=fun e=>dy (dG 4 e 1 (by decide));have Ci:12∉done:=fun e=>h4 (dG 12 e 4 (by decide));have g:=a4.prog;rw[if_neg Ci]at g;simp(disch:=omega) only[go_sem,seval,v0,g];exact hQ _ _ (fin 1 _ _ rfl (by omega) (by omega) (by omega) (by omega) (by rw[ff];rfl) (by rw[c_];rfl))
  .simp(disch:=omega) only[go_sem,seval,b1];exact hQ _ _ (fin 2 _ _ rfl (by omega) (by omega) (by omega) (by omega) (by rw[ff];rfl) (by rw[c_];rfl))
  .have v2:lk σ 19= .sl (encI v) .full:=vv 2 _ _ (dr 2 (by decide)) (by decide) (by rw[ff];rfl) (by rw[c_];rfl);simp(disch:=omega) only[go_sem,seval,v2,Pt];exact hQ _ _ (fin 3 _ _ rfl (by omega) (by omega) (by omega) (by omega) (by rw[ff];rfl) (by rw[c_];rfl))
  .have v1:lk σ 18=u:=vv 1 _ _ (dr 1 (by decide)) (by decide) (by rw[ff];rfl) (by rw[c_];rfl);have v3:lk σ 20= .sl [.sl (encI v) .full] .full:=vv 3 _ _ (dr 3 (by decide)) (by decide) (by rw[ff];rfl) (by rw[c_];rfl);have Ci:12∉done:=fun e=>dy (dG 12 e 4 (by decide));rw[if_neg dy,if_neg Ci,if_neg dy]at a4;simp(disch:=omega) only[go_sem,seval,v1,v3,Ps];refine a4.asG (by omega) (by omega) (by omega) v (by rw[List.length_map];omega) fun v' oF A5 A6=>hQ _ _ ?_;rw[List.length_map]at A6;rw[lz];refine⟨fun t ht=>(kU (by omega) _ _).trans (a1 t ht),fun j hj j1 j2 j3 j4=>?_,fun _=>by rw[y_];exact A6,?_⟩
   .rcases List.mem_cons.1 hj with rfl|hj
    .exact absurd rfl j2
    .rw[kU (by rw[ff];simp only;split<;>(try split)<;>omega)];exact a2 j hj j1 j2 j3 j4
   .have E9:(12∈4::done)<->12∈done:=by simp
    have Bo:(10∈4::done)<->10∈done:=by simp
    have E_:(14∈4::done)<->14∈done:=by simp
    simp only[Bo,E_,E9,List.mem_cons_self,if_true];rw[y_,if_neg Ci,kU (by omega)];exact A5
  .simp(disch:=omega) only[go_sem,seval,b2];exact hQ _ _ (fin 5 _ _ rfl (by omega) (by omega) (by omega) (by omega) (by rw[ff];rfl) (by rw[c_];rfl))
  .have v5:lk σ 22= .ptr (some (P,1)):=vv 5 _ _ (dr 5 (by decide)) (by decide) (by rw[ff];rfl) (by rw[c_];rfl);have sr:10∉done:=fun e=>dy (dG 10 e 6 (by decide));have Cj:14∉done:=fun e=>sr (dG 14 e 10 (by decide));have g:=a4.prog;rw[if_neg Cj]at g;simp(disch:=omega) only[go_sem,seval,v5,g];exact hQ _ _ (fin 6 _ _ rfl (by omega) (by omega) (by omega) (by omega) (by rw[ff];rfl) (by rw[c_];rfl))
  .simp(disch:=omega) only[go_sem,seval,b5];exact hQ _ _ (fin 7 _ _ rfl (by omega) (by omega) (by omega) (by omega) (by rw[ff];rfl) (by rw[c_];rfl))
  .have v7:lk σ 24= .ptr (some (hz.length,0)):=vv 7 _ _ (dr 7 (by decide)) (by decide) (by rw[ff];rfl) (by rw[c_];rfl);simp(disch:=omega) only[go_sem,seval,v7,kk];exact hQ _ _ (fin 8 _ _ rfl (by omega) (by omega) (by omega) (by omega) (by rw[ff];rfl) (by rw[c_];rfl))
  .have v8:lk σ 25= .int .i64 p:=vv 8 _ _ (dr 8 (by decide)) (by decide) (by rw[ff];rfl) (by rw[c_];rfl);simp(disch:=omega) only[go_sem,seval,v8,Pt];exact hQ _ _ (fin 9 _ _ rfl (by omega) (by omega) (by omega) (by omega) (by rw[ff];rfl) (by rw[c_];rfl))
  .have v6:lk σ 23=o:=vv 6 _ _ (dr 6 (by decide)) (by decide) (by rw[ff];rfl) (by rw[c_];rfl);have v9:lk σ 26= .sl [.int .i64 p] .full:=vv 9 _ _ (dr 9 (by decide)) (by decide) (by rw[ff];rfl) (by rw[c_];rfl);have Cj:14∉done:=fun e=>dy (dG 14 e 10 (by decide));have Bo:(if 10∈done then lk σ 27 else o)=o:=if_neg dy;have E_:(if 14∈done then lk σ 27 else o)=o:=if_neg Cj;have asJ:(if 10∈done then s.rows.map Prod.snd++[p]else s.rows.map Prod.snd)=s.rows.map Prod.snd:=if_neg dy;rw[Bo,E_,asJ]at a4;simp(disch:=omega) only[go_sem,seval,v6,v9,Ps];refine a4.asH (by omega) (by omega) (by omega) p (by rw[List.length_map];omega) fun v' oF A5=>hQ _ _ ?_;rw[lz];refine⟨fun t ht=>(kU (by omega) _ _).trans (a1 t ht),fun j hj j1 j2 j3 j4=>?_,fun h4=>by rw[kU (by omega)];exact a3 (by simpa using h4),?_⟩
   .rcases List.mem_cons.1 hj with rfl|hj
    .exact absurd rfl j3
    .rw[kU (by rw[ff];simp only;split<;>(try split)<;>omega)];exact a2 j hj j1 j2 j3 j4
   .have e4:(4∈10::done)<->4∈done:=by simp
    have E9:(12∈10::done)<->12∈done:=by simp
    have asK:(14∈10::done)<->14∈done:=by simp
    simp only[e4,E9,asK,List.mem_cons_self,if_true];rw[y_,if_neg Cj,kU (by omega)];exact A5
  .simp(disch:=omega) only[go_sem,seval,b2];exact hQ _ _ (fin 11 _ _ rfl (by omega) (by omega) (by omega) (by omega) (by rw[ff];rfl) (by rw[c_];rfl))
  .have h4:4∈done:=dr 4 (by decide);have v11:lk σ 28= .ptr (some (P,0)):=vv 11 _ _ (dr 11 (by decide)) (by decide) (by rw[ff];rfl) (by rw[c_];rfl);obtain⟨i1,c1,PB⟩:=a3 h4;have g:=a4.prog;simp(disch:=omega) only[go_sem,seval,v11,PB,g];rw[<-PB];have e4:(4∈12::done)<->4∈done:=by simp
   have Bo:(10∈12::done)<->10∈done:=by simp
   have E_:(14∈12::done)<->14∈done:=by simp
   refine hQ _ _ ?_;rw[lz];refine⟨a1,fun j hj j1 j2 j3 j4=>?_,fun h=>a3 (e4.1 h),?_⟩
   .rcases List.mem_cons.1 hj with rfl|hj
    .exact absurd rfl j4
    .exact a2 j hj j1 j2 j3 j4
   .simp only[e4,Bo,E_,List.mem_cons_self,if_true];exact a4.put
  .simp(disch:=omega) only[go_sem,seval,b2];exact hQ _ _ (fin 13 _ _ rfl (by omega) (by omega) (by omega) (by omega) (by rw[ff];rfl) (by rw[c_];rfl))
  .have sr:10∈done:=dr 10 (by decide);have v13:lk σ 29= .ptr (some (P,1)):=vv 13 _ _ (dr 13 (by decide)) (by decide) (by rw[ff];rfl) (by rw[c_];rfl);have g:=a4.prog;have hco:=a4.b;rw[if_pos sr,if_pos sr]at hco;obtain⟨i1,c1,e27⟩:∃i c,lk σ 27= .ms i 0 (s.rows.length+1) c 1:=by
    rcases hco with⟨_,e⟩|⟨q,c,pad,e,_⟩
    .simp at e
    .exact⟨0+q,c,by rw[e];simp⟩
   simp(disch:=omega) only[go_sem,seval,v13,e27,g];rw[<-e27];have e4:(4∈14::done)<->4∈done:=by simp
   have Bo:(10∈14::done)<->10∈done:=by simp
   have E9:(12∈14::done)<->12∈done:=by simp
   refine hQ _ _ ?_;rw[lz];refine⟨a1,fun j hj j1 j2 j3 j4=>a2 j (by grind) j1 j2 j3 j4,fun h=>a3 (e4.1 h),?_⟩;simp only[e4,Bo,E9,List.mem_cons_self,if_true];exact a4.put
 .intro done σ h' kK hI;rw[lz]at hI;obtain⟨a1,a2,a3,a4⟩:=hI;have m4:=kK 4 (by decide);have m10:=kK 10 (by decide);have m12:=kK 12 (by decide);have m14:=kK 14 (by decide);simp only[m4,m10,m12,m14,if_true]at a4;have b2:lk σ 2= .ptr (some (P,0)):=(a1 2 (by omega)).trans (by rw[tm];rfl);obtain⟨i1,c1,PB⟩:=a3 m4;obtain⟨R1,R2⟩:=M2.one (s':=⟨s.rows++[(v,p)],s.cN⟩) M0 (by simpa using a4) rfl;have g:=R1.prog;rw[PB]at g;refine aU ?_;refine bw.weaken (σ':=[(2,.ptr (some (P,0)))]) ?_ (AX σ _ (by grind));refine gO ?_;simp(disch:=omega) only[go_sem,seval,g];have K0:Kp P C u o u o hz K:=by rw[hK];exact(Kp.refl ..).more _
  exact⟨by congr 1;rw[decide_eq_decide];omega,_,_,R1,K0.trans R2⟩
mutual
theorem PC:∀(g:Gt) (v:List Int) (s:th),s.rows.length<=64->s.cN<=64->(mG g v s).1=true->(mG g v s).2.rows.length<=64/\s.cN<=(mG g v s).2.cN/\(mG g v s).2.cN<=64
 | .mk p n l,v,s,hr,hc,h=>by
  rw[mG]at h|-;split
  .grind
  .rename_i hp;rw[if_neg hp]at h;split
   .grind
   .rename_i h6;rw[if_neg h6]at h;obtain⟨a,b,c⟩:=aeY l 0 n _ ⟨s.rows,s.cN+(n-1).toNat⟩ hr (by grind) h;grind
theorem aeY:∀(l:List Gt) (i:Nat) (n:Int) (base:List Int) (s:th),s.rows.length<=64->s.cN<=64->(q_ l i n base s).1=true->(q_ l i n base s).2.rows.length<=64/\s.cN<=(q_ l i n base s).2.cN/\(q_ l i n base s).2.cN<=64
 |[],i,n,base,s,hr,hc,_=>by rw[q_];exact⟨hr,Nat.le_refl _,hc⟩
 |x::r,i,n,base,s,hr,hc,h=>by
  rw[q_]at h|-;split
  .rename_i h1;rw[if_pos h1]at h;obtain⟨a,b,c⟩:=PC x _ _ hr hc h1;obtain⟨d,e,f⟩:=aeY r (i+1) n base _ a c h;exact⟨d,by omega,f⟩
  grind
end
theorem asM(Γ P C F p n l)(hp:p<0)(hn:1<=n/\n<=4096)(hl:l.length<=1000)(IH:∀x∈l,TC Γ P C F x):TC Γ P C F (.mk p n l):=by
 intro v s u o hz H hv hc hr;have lt:∀{i ob},hz[i]? =some ob->i<hz.length:=fun e=>(List.getElem?_eq_some_iff.1 e).1;have hP:=lt H.prog;have hC:=lt H.col;have hF:=lt H.fn;obtain⟨p1,p2,p3⟩:=H.pc;obtain⟨m,hm⟩:∃m,m=(n-1).toNat:=⟨_,rfl⟩;rw[mG,if_neg (by omega),<-hm];refine tO [.tmp 7] Tryz.func110 ?_;rw[iu];refine cI ?_;obtain⟨K,hK⟩:∃K:AH,K=hz++[.row [.int .i64 p,.int .i64 n,.sl (l.map bM) .free] 49]:=⟨_,rfl⟩;rw[<-hK];have M0:Mk P C F s u o K:=by rw[hK];exact H.more _
 have gb:K[hz.length]? =some (.row [.int .i64 p,.int .i64 n,.sl (l.map bM) .free] 49):=by rw[hK];simp
 have K0:Kp P C u o u o hz K:=by rw[hK];exact(Kp.refl ..).more _
 refine fR ?_;refine eQ ?_;simp(disch:=omega) only[go_sem,seval,gb];refine gR ?_;refine bu (aJ.neg (by omega)) ?_;refine eQ ?_;simp(disch:=omega) only[go_sem,seval,M0.col];refine fR ?_;refine eQ ?_;simp(disch:=omega) only[go_sem,seval,M0.col,gb];rw[show(s.cN:Int)+(n-1)=((s.cN+m:Nat):Int)by omega];obtain⟨K1,Gc⟩:∃K1:AH,K1=K.set C (.row [.int .i64 ((s.cN+m:Nat):Int)] 3):=⟨_,rfl⟩;have M1:Mk P C F ⟨s.rows,s.cN+m⟩ u o K1:=by rw[Gc];exact M0.asF _
 have gb1:K1[hz.length]? =some (.row [.int .i64 p,.int .i64 n,.sl (l.map bM) .free] 49):=by rw[Gc,List.getElem?_set_ne (by omega)];exact gb
 have K10:Kp P C u o u o hz K1:=by refine K0.trans ⟨by grind,fun i hi a b c d=>by grind,fun _ _ e=>e,fun _ _ e=>e⟩
 rw[<-Gc];refine bu (bw.keep [1,2,3,4,5,8]) ?_;refine eQ ?_;simp(disch:=omega) only[go_sem,seval,M1.col];refine gR ?_;refine aJ.intro (fun h6=>?_) (fun h6=>?_)
 .refine aU ?_;grind
 .refine aU ?_;rw[if_neg (by omega)];refine eQ ?_;simp(disch:=omega) only[go_sem,seval,cc];refine⟨db.int v,by omega,by omega,by omega,?_⟩;obtain⟨base,Ec⟩:∃base,base=v++List.replicate (s.cN-v.length) 0:=⟨_,rfl⟩;have qz:base.length=s.cN:=by rw[Ec];simp;omega
  rw[show encI v++List.replicate ((s.cN:Int)-v.length).toNat (AV.int .i64 0)=encI base by rw[Ec,show((s.cN:Int)-v.length).toNat=s.cN-v.length by omega];simp[encI],<-Ec];refine bu (bw.keep [2,3,4,5,8,9]) ?_;refine fR ?_;refine eQ ?_;simp(disch:=omega) only[go_sem,seval,gb1];refine jZ ?_;refine y2 (β:=th×AV×AV×AH) l [2,3,4,5,8,9,49,50,51] (fun ae _=>[(2,.ptr (some (P,0))),(3,.ptr (some (C,0))),(4,.ptr (some (F,0))),(5,.ptr (some (hz.length,0))),(8,.int .i64 s.cN),(9,.sl (encI base) .free),(49,.sl (l.map bM) .free),(50,.int .i64 l.length),(51,.int .i64 ae.length)]) (fun b=>b.2.2.2)
   (fun ae r b=>Mk P C F b.1 b.2.1 b.2.2.1 b.2.2.2/\Kp P C u o b.2.1 b.2.2.1 hz b.2.2.2/\hz.length<b.2.2.2.length/\b.2.2.2[hz.length]? =some (.row [.int .i64 p,.int .i64 n,.sl (l.map bM) .free] 49)/\kH b.2.1≠some hz.length/\kH b.2.2.1≠some hz.length/\s.cN+m<=b.1.cN/\b.1.cN<=64/\b.1.rows.length<=64/\q_ l 0 n base ⟨s.rows,s.cN+m⟩=q_ r ae.length n base b.1) (⟨s.rows,s.cN+m⟩,u,o,K1) ?_ rfl ⟨M1,K10,by rw[Gc,List.length_set,hK];simp,gb1,fun e=>by have:=H.a.lt e;omega,fun e=>by have:=H.b.lt e;omega,Nat.le_refl _,by show s.cN+m<=64;omega,hr,rfl⟩ (fun ae x r b hd hb=>?_) (fun b hb=>?_)
  .exact dL
  .obtain⟨s1,u1,o1,h1⟩:=b;obtain⟨B1,B2,B3,B4,B5,B6,B7,B8,B9,Lt⟩:=hb;dsimp only at B1 B2 B3 B4 B5 B6 B7 B8 B9 Lt|-;have hlen:l.length=ae.length+1+r.length:=by rw[hd];simp;omega
   have e1:(l.map bM)[ae.length]? =some (bM x):=by rw[hd];exact fZ ..
   have c1:=IH x (by rw[hd];simp);obtain⟨xp,xn,xl,hx⟩:∃xp xn xl,x= .mk xp xn xl:=by cases x with|mk a b c=>exact⟨a,b,c,rfl⟩
   rw[hx,iu]at e1;refine eQ ?_;simp(disch:=omega) only[go_sem,seval];refine cI ?_;refine bu (aJ.pos (by omega)) ?_;refine fR (jZ ?_);refine eQ ?_;simp(disch:=omega) only[go_sem,seval,e1];refine eQ ?_;simp(disch:=omega) only[go_sem,seval,cc];refine⟨db.int base,by omega,by omega,?_⟩;rw[List.take_of_length_le (by rw[cc];omega)];obtain⟨K3,Hv⟩:∃K3:AH,K3=h1++[.row [.int .i64 xp,.int .i64 xn,.sl (xl.map bM) .free] 49,.row [.sl (encI base) .full] 30]:=⟨_,rfl⟩;have hLl:K3.length=h1.length+2:=by rw[Hv];simp
   have k0:K3[hz.length]? =some (.row [.int .i64 p,.int .i64 n,.sl (l.map bM) .free] 49):=by rw[Hv];exact eP _ B4
   have kX:K3[h1.length]? =some (.row [.int .i64 xp,.int .i64 xn,.sl (xl.map bM) .free] 49):=by rw[Hv];simp
   have kY:K3[h1.length+1]? =some (.row [.sl (encI base) .full] 30):=by rw[Hv];simp
   rw[<-Hv];refine bu (bw.keep [2,3,4,5,8,9,10,11,12,49,50,51]) ?_;refine fR ?_;refine eQ ?_;simp(disch:=omega) only[go_sem,seval,k0];refine az.cv (asD Γ _ _ _) ?_;rw[show n-1=(m:Int)by omega];refine aU ?_;refine jZ ?_;have c2:=asE Γ ((ae.length:Int)+1) m (by omega) (by omega);refine SS (by rw[Vr];rfl) fun li iZ=>?_;obtain⟨L,hL⟩:∃L,L=K3.length:=⟨_,rfl⟩;rw[<-hL];have N5:∀dn x r,mE ((ae.length:Int)+1) m 1=dn++x::r->dn.length<5000:=fun dn x r e=>by have:=congrArg List.length e;rw[G8]at this;simp at this;omega
   obtain⟨I,hI⟩:∃I:List Int->AH->Prop,I=fun dn hx=>L<hx.length/\hx[L]? =some (.loop .ready none li)/\(∃ow,hx[h1.length+1]? =some (.row [.sl (encI (base++dn)) ow] 30)/\((dn=[]/\ow= .full)\/∃i,ow= .bN i/\L<i/\hx[i]? =some (.bN (base++dn).length)))/\(∀i<L,i≠h1.length+1->hx[i]? =K3[i]?)/\∀i ob,L<i->hx[i]? =some ob->∀st pe li,ob≠ .loop st pe li:=⟨_,rfl⟩;refine(c2 L I (fun _=>False) _ ?_ (fun _ _ _ h=>h) ?_ ?_).mono ?_
   .intro dn hx l hl rf;rw[hI]at rf|-;obtain⟨q0,q1,⟨ow,q2,q4⟩,q5,q6⟩:=rf;refine⟨by simp;omega,eP _ q1,⟨ow,eP _ q2,?_⟩,fun i hi n1=>by rw[List.getElem?_append_left (by omega)];exact q5 i hi n1,fun i ob hi e=>?_⟩
    .rcases q4 with q4|⟨i1,a0,a1,a2⟩
     .exact .inl q4
     .exact .inr ⟨i1,a0,a1,eP _ a2⟩
    .rw[List.getElem?_append]at e;split at e
     .exact q6 i ob hi e
     .exact hl ob (List.mem_of_getElem? e)
   .intro dn y r2 hx dr rf;rw[hI]at rf;have bT:=N5 dn y r2 dr;obtain⟨q0,q1,⟨ow,q2,q4⟩,q5,q6⟩:=rf;refine bu (Jf iZ q1 (by kernel_rfl) rfl Ty.mixed (by kernel_rfl) (by kernel_rfl)) ?_;refine⟨q1,?_⟩;have f1:(hx.set L (.loop .busy none li))[h1.length+1]? =some (.row [.sl (encI (base++dn)) ow] 30):=by rw[List.getElem?_set_ne (by omega)];exact q2
    have fin:∀(Hf:AH) (i1:Nat),hx.length<=Hf.length->Hf[L]? =some (.loop .busy none li)->L<i1->Hf[i1]? =some (.bN ((base++dn).length+1))->(∀i<L,Hf[i]? =hx[i]?)->(∀i ob,L<i->Hf[i]? =some ob->∀st pe lj,ob≠ .loop st pe lj)->
      (Hf.set (h1.length+1) (.row [.sl (encI (base++dn)++encI [y]) (.bN i1)] 30))[L]? =some (.loop .busy none li)/\(I (dn++[y]) ((Hf.set (h1.length+1) (.row [.sl (encI (base++dn)++encI [y]) (.bN i1)] 30)).set L (.loop .ready none li))\/AV.bool true= .bool false/\False):=fun Hf i1 b0 b1 b2 b3 b4 b5=>by
     rw[show encI (base++dn)++encI [y]=encI (base++(dn++[y]))by simp[encI]];refine⟨by rw[List.getElem?_set_ne (by omega)];exact b1,.inl ?_⟩;rw[hI];refine⟨by simp only[List.length_set];omega,by rw[List.getElem?_set_self (by simp only[List.length_set];omega)],⟨_,by rw[List.getElem?_set_ne (by omega),List.getElem?_set_self (by omega)],.inr ⟨i1,rfl,b2,?_⟩⟩,fun i hi n1=>?_,fun i ob hi e=>?_⟩
     .rw[List.getElem?_set_ne (by omega),List.getElem?_set_ne (by omega),b3];simp;omega
     .rw[List.getElem?_set_ne (by omega),List.getElem?_set_ne (by omega),b4 i hi];exact q5 i hi n1
     .rw[List.getElem?_set_ne (by omega),List.getElem?_set_ne (by omega)]at e;exact b5 i ob hi e
    have rw1:[AV.int .i64 y]=encI [y]:=rfl;rcases q4 with⟨rfl,rfl⟩|⟨i1,rfl,a1,a2⟩
    .simp only[List.append_nil]at fin f1;simp(disch:=omega) only[go_sem,seval,f1];rw[rw1];refine yU (db.int _) (db.int [y]) (by simp[encI];omega) (by simp[encI];omega) ?_;have s1:(hx.set L (.loop .busy none li)).length=hx.length:=List.length_set;obtain⟨H1,gJ⟩:∃H1:AH,H1=hx.set L (.loop .busy none li)++[.bN ((encI base).length+(encI [y]).length)]:=⟨_,rfl⟩;have E8:H1[h1.length+1]? =some (.row [.sl (encI base) .full] 30):=by rw[gJ];exact eP _ f1
     rw[<-gJ];simp(disch:=omega) only[go_sem,seval,E8];refine fin H1 (hx.set L (.loop .busy none li)).length (by rw[gJ,List.length_append,s1];simp) ?_ (by omega) ?_ (fun i hi=>?_) (fun i ob hi e=>?_)
     .rw[gJ,List.getElem?_append_left (by omega),List.getElem?_set_self q0]
     .rw[gJ,List.getElem?_append_right (Nat.le_refl _),Nat.sub_self,cc];rfl
     .rw[gJ,List.getElem?_append_left (by omega),List.getElem?_set_ne (by omega)]
     .rw[gJ,List.getElem?_append]at e;split at e
      .rw[List.getElem?_set_ne (by omega)]at e;exact q6 i ob hi e
      .have:=List.mem_of_getElem? e;rw[List.mem_singleton]at this;subst this;simp
    .simp(disch:=omega) only[go_sem,seval,f1];rw[rw1];have s1:i1<hx.length:=(List.getElem?_eq_some_iff.1 a2).1;refine yV (i:=i1) (by rw[List.getElem?_set_ne (by omega),cc];exact a2) (db.int _) (db.int [y]) (by simp[encI];omega) (by simp[encI];omega) ?_;obtain⟨H1,gJ⟩:∃H1:AH,H1=(hx.set L (.loop .busy none li)).set i1 (.bN ((encI (base++dn)).length+(encI [y]).length)):=⟨_,rfl⟩;have E8:H1[h1.length+1]? =some (.row [.sl (encI (base++dn)) (.bN i1)] 30):=by rw[gJ,List.getElem?_set_ne (by omega)];exact f1
     rw[<-gJ];simp(disch:=omega) only[go_sem,seval,E8];refine fin H1 i1 (by rw[gJ];simp) (by rw[gJ,List.getElem?_set_ne (by omega),List.getElem?_set_self q0]) a1 ?_ (fun i hi=>?_) (fun i ob hi e=>?_)
     .rw[gJ,List.getElem?_set_self (by simp only[List.length_set];omega),cc];rfl
     .rw[gJ,List.getElem?_set_ne (by omega),List.getElem?_set_ne (by omega)]
     .rw[gJ,List.getElem?_set]at e;split at e
      .split at e
       .cases e;simp
       .cases e
      .rw[List.getElem?_set_ne (by omega)]at e;exact q6 i ob hi e
   .rw[hI];refine⟨by simp;omega,by rw[hL];simp,⟨.full,by rw[List.append_nil];exact eP _ kY,.inl ⟨rfl,rfl⟩⟩,fun i hi _=>List.getElem?_append_left (by omega),fun i ob hi e=>?_⟩;rw[List.getElem?_eq_none (by simp;omega)]at e;cases e
   .rintro _ h' (rf|hF);rotate_left
    .exact hF.elim
    rw[hI]at rf;obtain⟨q0,q1,⟨ow,q2,q4⟩,q5,q6⟩:=rf;refine⟨.ready,none,q1,fun i ob hi e=>?_,by simp,?_⟩
    .by_cases hiL:i<L
     .by_cases n1:i=h1.length+1
      .subst n1;rw[q2]at e;cases e;exact .inr (by simp)
      .rw[q5 i hiL n1]at e;exact .inl e
     .exact .inr (q6 i ob (by omega) e)
    .obtain⟨w,hw⟩:∃w,w=base++mE ((ae.length:Int)+1) m 1:=⟨_,rfl⟩;rw[<-hw]at q2;have mT:w.length=s.cN+m:=by rw[hw,List.length_append,G8,qz]
     obtain⟨H3,yg⟩:∃H3,H3=h'.set L .dead:=⟨_,rfl⟩;have ae2:∀i<L,i≠h1.length+1->H3[i]? =K3[i]? :=fun i hi n1=>by rw[yg,List.getElem?_set_ne (by omega)];exact q5 i hi n1
     have zY:H3[h1.length+1]? =some (.row [.sl (encI w) ow] 30):=by rw[yg,List.getElem?_set_ne (by omega)];exact q2
     have zX:H3[h1.length]? =some (.row [.int .i64 xp,.int .i64 xn,.sl (xl.map bM) .free] 49):=by rw[ae2 _ (by omega) (by omega)];exact kX
     have Vv:∀i<h1.length,H3[i]? =h1[i]? :=fun i hi=>by rw[ae2 i (by omega) (by omega),Hv,List.getElem?_append_left hi]
     have M3:Mk P C F s1 u1 o1 H3:=B1.keep fun i ob e _=>by rw[Vv i (List.getElem?_eq_some_iff.1 e).1];exact e
     have K13:Kp P C u1 o1 u1 o1 h1 H3:=⟨by rw[yg,List.length_set];omega,fun i hi _ _ _ _=>Vv i hi,fun _ _ e=>e,fun _ _ e=>e⟩;have z0:H3[hz.length]? =some (.row [.int .i64 p,.int .i64 n,.sl (l.map bM) .free] 49):=by rw[Vv _ B3];exact B4
     rw[<-yg,Cf];refine aU ?_;refine bu (bw.keep [2,3,4,5,8,9,11,12,49,50,51]) ?_;have c3:=c1 w s1 u1 o1 H3 M3 (by omega) B8 B9;rw[hx,iu,<-hx]at c3;have gw:q_ (x::r) ae.length n base s1=if(mG x w s1).1 then q_ r (ae.length+1) n base (mG x w s1).2 else(false,(mG x w s1).2):=by rw[q_,<-hm,<-hw]
     refine SP [2,3,4,5,8,9,49,50,51,80] (fun σ hy=>σ=[(2,.ptr (some (P,0))),(3,.ptr (some (C,0))),(4,.ptr (some (F,0))),(5,.ptr (some (hz.length,0))),(8,.int .i64 s.cN),(9,.sl (encI base) .free),(49,.sl (l.map bM) .free),(50,.int .i64 l.length),(51,.int .i64 ae.length),(80,.bool (!(mG x w s1).1))]/\∃u2 o2,Mk P C F (mG x w s1).2 u2 o2 hy/\Kp P C u1 o1 u2 o2 H3 hy) (ZK (c:=8) Ty.mixed (by kernel_rfl) (by kernel_rfl) rfl (by kernel_rfl) ?_ ?_) ?_
     .unfold mm;exact dL
     .simp only[List.take_succ_cons,List.take_zero,List.drop_succ_cons,List.drop_zero];simp(disch:=omega) only[go_sem,seval,M3.fn,zX,zY,cc];refine⟨db.int w,by omega,by omega,?_⟩;rw[List.take_of_length_le (by rw[cc];omega),Lq];refine aU ?_;refine c3.mono ?_;rintro _ hy ⟨rfl,u2,o2,E1,E2⟩;refine aU ?_;exact⟨u2,o2,E1,E2⟩
     .rintro _ hy ⟨rfl,u2,o2,E1,E2⟩;refine gR ?_;have hE3:=E2.len;have h3l:h1.length<H3.length:=by rw[yg,List.length_set];omega
      cases ht:(mG x w s1).1
      .rw[ht]at gw;refine aU ?_;rw[Lt,gw];exact⟨rfl,_,_,E1,B2.trans (K13.trans E2)⟩
      .rw[ht,if_pos rfl]at gw;obtain⟨b1,b2,b3⟩:=PC x w s1 B9 B8 ht;refine aU ?_;refine gR ?_;refine cd ((mG x w s1).2,u2,o2,hy) ⟨E1,B2.trans (K13.trans E2),by show hz.length<hy.length;omega,?_,fun e=>B5 (E2.ua _ (by omega) e),fun e=>B6 (E2.ob _ (by omega) e),by show s.cN+m<=(mG x w s1).2.cN;omega,b3,b1,?_⟩ ?_ rfl
       .show hy[hz.length]? =_;rw[E2.kp _ (by omega) (by omega) (by omega) B5 B6];exact z0
       .rw[Lt,gw,List.length_append];rfl
       .simp(disch:=omega) only[go_sem,seval,List.length_append]
  .refine cI ?_;refine cI ?_;refine gR ?_;obtain⟨B1,B2,B3,B4,B5,B6,B7,B8,B9,Lt⟩:=hb;rw[Lt,q_];exact⟨rfl,_,_,B1,B2⟩
theorem ae5:∀l:List Gt,(l.length:Int)<=gF l
 |[]=>by simp[gF]
 |x::r=>by have h1:=CF x;have h2:=ae5 r;simp only[gF,List.length_cons];omega
theorem ae6{x:Gt}:∀{l:List Gt},x∈l->js x<=gF l
 |y::r,h=>by
  have h1:=CF y;have h2:=CG r;rw[gF];rcases List.mem_cons.1 h with rfl|h
  .omega
  .have:=ae6 h;omega
theorem PJ:∀(k:Nat) (g:Gt),SizeOf.sizeOf g<k->js g<=256->CW g
 |0,_,h,_=>absurd h (Nat.not_lt_zero _)
 |k+1,.mk p n l,h,hl=>by
  cases l with
  |nil=>exact .mk (by simp) (by simp)
  |cons x r=>
   have j7:gF (x::r)<=256:=by simpa [js]using hl
   have:=ae5 (x::r);exact .mk (by omega) fun y hy=>PJ k y (CE hy h) (by have:=ae6 hy;omega)
theorem ae7(Γ:GG)(P C F:Nat):∀(k:Nat) (g:Gt),SizeOf.sizeOf g<k->iM g=true->CW g->TC Γ P C F g
 |0,_,h,_,_=>absurd h (Nat.not_lt_zero _)
 |k+1,.mk p n l,h,hr,hw=>by
  rw[iM]at hr;by_cases hp:0<=p
  .exact asI Γ P C F p n l hp
  .rw[if_neg hp,Tu]at hr;simp only[Bool.and_eq_true,decide_eq_true_eq,List.all_eq_true]at hr;obtain⟨hl,hm⟩:l.length<=1000/\∀x∈l,CW x:=by cases hw;grind
   exact asM Γ P C F p n l (by omega) ⟨hr.1.1.2,hr.1.2⟩ hl fun x hx=>ae7 Γ P C F k x (CE hx h) (hr.2 x hx) (hm x hx)
theorem asS(Γ P C F g)(h:dp g=0):TC Γ P C F g:=by obtain⟨_,h2,h3⟩:=(O0 g).1 h;exact ae7 Γ P C F _ g (Nat.lt_succ_self _) h3 (PJ _ g (Nat.lt_succ_self _) h2)
def mK(c:Nat)(r:List Int):List Int:=r++List.replicate (c-r.length) 0
def ka(g:Gt):Bool×th:=mG g [1] ⟨[],1⟩
def ri(c:Nat)(ae rest:List (List Int))(pad:List AV):List AV:=(ae.map fun r=>AV.sl (encI (mK c r)) .free)++(rest.map fun r=>AV.sl (encI r) .full)++pad
def PK(R:AV->AH->Prop)(v:AV)(h':AH):Prop:=R v h'\/∃i cs T h3,h'[i]? =some (.row cs T)/\jM i cs h' h3/\R (dd i cs v) h3
theorem az.ae8{P Γ h f args R}(H:az P Γ f args h (PK R)):az P Γ f args h R:=
 ⟨H.1,fun G w vs hI hv=>(H.2 G w vs hI hv).mono fun e w' hr=>by
  obtain⟨v,G',av,h',h1,h2,h3,h4,h5|⟨i,cs,T,hh,k1,k2,k3⟩⟩:=hr
  .exact⟨v,_,_,h',h1,h2,h3,h4,h5⟩
  .obtain⟨b,vals,q1,q2,q3⟩:=h3.freeze k1 k2;exact⟨v,_,_,hh,h1,h2.trans q1,q2,q3 _ _ h4,k3⟩⟩
def Vw(h:AH)(R:List (List Int))(own:List Int)(v:AV)(h':AH):Prop:=(∃l,h'=h++l)/\RB h.length (loose v)/\loose v= .tuple [mY R own,.int .i64 0]
def MkZ(h:AH)(b:Bool)(s:th):AV->AH->Prop:=match b with
 |true=>Vw h (s.rows.map fun r=>mK s.cN r.1) (s.rows.map Prod.snd)
 |false=>fun v h'=>(∃l,h'=h++l)/\RB h.length (loose v)/\loose v= .tuple [mY [] [],.int .i64 2]
theorem asU{P Γ h f args b s}(H:az P Γ f args h (PK (PK (MkZ h b s)))):
  az P Γ f args h fun v h'=>h'=h/\v=if b=true then .tuple [mY (s.rows.map fun r=>mK s.cN r.1) (s.rows.map Prod.snd),.int .i64 0]else .tuple [mY [] [],.int .i64 2]:=by
 refine az.ji ((az.ae8 (az.ae8 H)).mono fun v h' hz=>?_);cases b with
 |true=>rw[if_pos rfl];exact hz
 |false=>rw[if_neg (by simp)];exact hz
theorem ae9{h Hf R own o1 o2}(lB:∀i<h.length,Hf[i]? =h[i]?):Vw h R own (.tuple [.agg [.sl (bD R) o1,.sl (encI own) o2],.int .i64 0]) Hf:=by
 have e:loose (.tuple [.agg [.sl (bD R) o1,.sl (encI own) o2],.int .i64 0])= .tuple [mY R own,.int .i64 0]:=by rw[mY,vz];simp only[loose,eI,J_,rL]
 refine⟨Ll lB,?_,e⟩;rw[e,mY,vz];exact .tuple' (bB.cons (.Al (bB.cons (wm _ _) (bB.cons (of_eq_true (Fr.pZ _ _)) (bB.nil _)))) (bB.cons (.int _ _) (bB.nil _)))
theorem ae_{K n c cs}(h1:n<=cs.length)(h2:n<=c)(h3:∀a∈cs,a.isAgg=false):dd K cs (.ms K 0 n c 1)= .sl (cs.take n) .free:=by
 have eD:tQ cs 0 n c 1=true:=by simp only[tQ,Bool.and_eq_true,decide_eq_true_eq,List.all_eq_true,Bool.not_eq_true'];grind
 rw[dd,if_pos ⟨rfl,eD⟩,List.drop_zero,DS _ _ h1]
theorem afa{h Hf R own o1 o}(ho:LO Ht 3 Hf o own)(lB:∀i<h.length,Hf[i]? =h[i]?)(hq:∀i,kH o=some i->h.length<=i):
  PK (Vw h R own) (.tuple [.agg [.sl (bD R) o1,o],.int .i64 0]) Hf:=by
 rcases ho with⟨rfl,rfl⟩|⟨q,c,pad,rfl,a2,a3,a4⟩
 .exact .inl (ae9 (own:=[]) lB)
 .rw[Nat.zero_add]at hq|-;rw[cR,aeC]at a2;refine .inr ⟨q,_,_,_,a2,jM.set a2,?_⟩;rw[dd];simp only[fB];rw[dd];simp only[fB];rw[ae_ (by simp[cc]) (by omega) (fun a ha=>(List.mem_append.1 ha).elim (fun ha=>by obtain⟨x,_,rfl⟩:=List.mem_map.1 ha;rfl) (a4 a)),List.take_append_of_le_length (by rw[cc];exact Nat.le_refl _),List.take_of_length_le (by rw[cc];exact Nat.le_refl _),dd,aeK,dd];exact ae9 fun i hi=>by rw[List.getElem?_set_ne (by have:=hq q rfl;omega)];exact lB i hi
theorem asV(Γ g h)(hs:Sh g)(hc:dp g=0):
  AC Γ 46 [bM g] h (if(ka g).1=true then .tuple [mY ((ka g).2.rows.map fun r=>mK (ka g).2.cN r.1) ((ka g).2.rows.map Prod.snd),.int .i64 0]else .tuple [mY [] [],.int .i64 2]):=by
 have c1:=fun h=>GC Γ g h hs;rw[hc]at c1;refine asU ?_;have c2:=asS Γ (h.length+1) (h.length+2) (h.length+3) g hc;obtain⟨p,n,l,hg⟩:∃p n l,g= .mk p n l:=by cases g with|mk a b c=>exact⟨a,b,c,rfl⟩
 have eg:bM g= .agg [.int .i64 p,.int .i64 n,.sl (l.map bM) .free]:=by rw[hg,iu]
 rw[eg]at c1;rw[eg];refine tO [.cell 2 90,.tmp 3] Tryz.func46 ?_;refine cI ?_;refine fR ?_;refine cI ?_;refine bL (c1 _) ?_;refine gR ?_;refine cI ?_;refine cI ?_;refine cI ?_;refine fR ?_;refine cI ?_;obtain⟨H0,lU⟩:∃H0:AH,H0=h++[.row [.int .i64 p,.int .i64 n,.sl (l.map bM) .free] 49,.row [.sl [] .full,.sl [] .full] 90,.row [.int .i64 1] 3,.row [Lq (h.length+1) (h.length+2) (h.length+3)] 171]:=⟨_,rfl⟩;rw[Lq]at lU;rw[<-lU];have M0:Mk (h.length+1) (h.length+2) (h.length+3) ⟨[],1⟩ (.sl [] .full) (.sl [] .full) H0:=⟨by rw[lU];simp,by rw[lU];simp,by rw[lU];simp[Lq],.inl ⟨rfl,rfl⟩,.inl ⟨rfl,rfl⟩,fun i e=>(by cases e),fun i e=>(by cases e),by omega⟩;have c3:=c2 [1] ⟨[],1⟩ _ _ _ M0 (by decide) (by decide) (by decide);rw[eg]at c3;refine c3.mono ?_;rintro _ h1 ⟨rfl,u,o,M1,K1⟩;rw[<-ka]at M1|-;have lB:∀i<h.length,h1[i]? =h[i]? :=fun i hi=>by rw[K1.kp i (by rw[lU];simp;omega) (by omega) (by omega) (by simp[kH]) (by simp[kH]),lU,List.getElem?_append_left hi]
 have aCL:H0.length=h.length+4:=by rw[lU];simp
 have hqo:∀i,kH o=some i->h.length+4<=i:=fun i e=>by
  by_cases hi:i<H0.length
  .have:=K1.ob i hi e;cases this
  .omega
 have hqu:∀i,kH u=some i->h.length+4<=i:=fun i e=>by
  by_cases hi:i<H0.length
  .have:=K1.ua i hi e;cases this
  .omega
 have afc:o.one=true:=by rcases M1.b with⟨e,_⟩|⟨q,c,pad,e,_⟩<;>rw[e]<;>rfl
 cases hb:(ka g).1
 .have hPl:=(List.getElem?_eq_some_iff.1 M1.prog).1;have gP:(h1.set (h.length+1) (.row [.sl [] .full,.sl [] .full] 90))[h.length+1]? =some (.row [.sl [] .full,.sl [] .full] 90):=List.getElem?_set_self hPl;refine aU ?_;refine gO ?_;simp(disch:=omega) only[go_sem,seval,M1.prog,gP];refine .inl (.inl ⟨Ll fun i hi=>by grind,?_⟩);rw[mY,vz];simp only[loose,eI,bD,encI,List.map_nil,and_true];exact .tuple' (bB.cons (.Al (bB.cons (of_eq_true (Fr.pZ _ [])) (bB.cons (of_eq_true (Fr.pZ _ [])) (bB.nil _)))) (bB.cons (.int _ _) (bB.nil _)))
 .refine aU ?_;refine gR ?_;refine fR ?_;refine eQ ?_;obtain⟨new,ht⟩:=UZ (fun _=>true) g [1] ⟨[],1⟩ (ka g).2 ((O0 g).1 hc).2.2 (PJ _ g (Nat.lt_succ_self _) ((O0 g).1 hc).2.1) (by decide) (by rw[<-hb];rfl);have ik:∀r∈(ka g).2.rows,r.1.length<=(ka g).2.cN:=fun r hr=>by have:=ht.rows;rw[List.nil_append]at this;exact ht.EZ r (this▸hr)
  obtain⟨b1,b2,b3⟩:=PC g [1] ⟨[],1⟩ (by decide) (by decide) hb;rw[<-ka]at b1 b2 b3;generalize(ka g).2=s at*;obtain⟨rows,cN⟩:=s;dsimp only at ik b1 b2 b3|-;have ga:=M1.a;have gb:=M1.b;dsimp only at ga gb;rcases ga with⟨rfl,e0⟩|⟨q,c,pad,rfl,a2,a3,a4⟩
  .have er:rows=[]:=List.map_eq_nil_iff.1 e0;subst er;simp(disch:=omega) only[go_sem,seval,M1.prog];refine jZ ?_;refine oO (β:=Unit) ([]:List Unit) [2,23,24] (fun _ _=>[(2,.ptr (some (h.length+1,0))),(23,.int .i64 0),(24,.int .i64 0)]) (fun _=>h1) (fun _ _ _=>True) () ?_ rfl trivial Ty.mixed (by kernel_rfl) (fun ae x r _ hd _=>by simp at hd) (fun _ _=>?_)
   .exact dL
   .refine aU ?_;refine jL [2] ?_;have ks:h1.set (h.length+1) (.row [.sl [] .full,o] 90)=h1:=ph M1.prog;simp(disch:=omega) only[go_sem,seval,M1.prog,ks];exact⟨afc,.inl (afa (h:=h) (R:=[]) (own:=[]) (o1:= .full) gb lB fun i e=>by have:=hqo i e;omega)⟩
  .have Gw:=hqu (0+q) rfl;rw[Nat.zero_add]at Gw;have dG:∀d r x,ri cN d (x::r) pad=(d.map fun r=>AV.sl (encI (mK cN r)) .free)++ .sl (encI x) .full::((r.map fun r=>AV.sl (encI r) .full)++pad):=fun d r x=>by simp[ri]
   have pN:∀d r x,(ri cN d (x::r) pad).set d.length (.sl (encI (mK cN x)) .free)=ri cN (d++[x]) r pad:=fun d r x=>by rw[dG,List.set_append_right _ _ (by simp)];simp[ri]
   have asY:∀d r x,(ri cN d (x::r) pad).drop d.length= .sl (encI x) .full::((r.map fun r=>AV.sl (encI r) .full)++pad):=fun d r x=>by grind
   have afd:∀d r,(ri cN d r pad).length=d.length+r.length+pad.length:=fun d r=>by simp[ri];omega
   have g0:h1[q]? =some (.row (ri cN [] (rows.map Prod.fst) pad) 30):=by
    rw[a2,cR,ri];congr 3;have:∀l:List (List Int),l.flatMap PA=l.map fun r=>AV.sl (encI r) .full:=fun l=>by
     induction l with
     |nil=>rfl
     |cons x l ih=>rw[List.flatMap_cons,ih];rfl
    rw[this];rfl
   have FM:=M1.na (0+q) rfl;rw[Nat.zero_add]at FM;have sB:=(List.getElem?_eq_some_iff.1 g0).1;have gP:∀cs,(h1.set q (.row cs 30))[h.length+1]? =some (.row [.ms (0+q) 0 (rows.map Prod.fst).length c 1,o] 90):=fun cs=>by rw[List.getElem?_set_ne FM.1];exact M1.prog
   have gC:∀cs,(h1.set q (.row cs 30))[h.length+2]? =some (.row [.int .i64 cN] 3):=fun cs=>by rw[List.getElem?_set_ne FM.2.1];exact M1.col
   have gQ:∀cs,(h1.set q (.row cs 30))[q]? =some (.row cs 30):=fun cs=>List.getElem?_set_self sB;have gS:∀cs AI,(h1.set q (.row cs 30)).set q (.row AI 30)=h1.set q (.row AI 30):=fun cs AI=>List.set_set ..;rw[Nat.zero_add,List.length_map]at gP;simp(disch:=omega) only[go_sem,seval,M1.prog];refine jZ ?_;refine oO (β:=AH) (rows.map Prod.fst) [2,4,22,23,24] (fun ae _=>[(2,.ptr (some (h.length+1,0))),(4,.ptr (some (h.length+2,0))),(22,.ms q 0 rows.length c 1),(23,.int .i64 rows.length),(24,.int .i64 ae.length)]) (fun b=>b) (fun ae r b=>b=h1.set q (.row (ri cN ae r pad) 30)) h1 ?_ rfl (ph g0).symm Ty.mixed (by kernel_rfl) (fun ae x r b hd hB=>?_) (fun b hB=>?_)
   .simp(disch:=omega) only[go_sem,seval,Nat.zero_add]
   .subst hB;have rN:ae.length<rows.length:=by rw[show rows.length=(rows.map Prod.fst).length by rw[List.length_map],hd];simp
    have iD:x.length<=cN:=by obtain⟨rr,hr,rfl⟩:=List.mem_map.1 (show x∈rows.map Prod.fst by rw[hd];simp);exact ik rr hr
    refine aU ?_;refine aJ.pos (by omega) ?_;simp(disch:=omega) only[go_sem,seval,gQ,asY,Nat.zero_add,Nat.mul_one,Int.toNat_natCast];refine⟨by omega,?_⟩;simp(disch:=omega) only[go_sem,seval,gP,gC,cc];have Vy:(encI x).take x.length=encI x:=List.take_of_length_le (by rw[cc];exact Nat.le_refl _);have epd:encI x++List.replicate ((cN:Int)-x.length).toNat (AV.int .i64 0)=encI (mK cN x):=by rw[mK,show((cN:Int)-x.length).toNat=cN-x.length by omega];simp[encI]
    rw[Vy];refine⟨db.int x,by omega,by omega,db.int x,by omega,by rw[cc];omega,by rw[cc];omega,by omega,?_⟩;rw[epd];simp(disch:=omega) only[go_sem,seval,gQ,gS,pN,Nat.zero_add,Nat.mul_one];exact⟨by rw[afd];simp;omega,cd _ rfl (by rw[List.length_append,List.length_singleton];rfl) rfl⟩
   .subst hB;have kP:=gP (ri cN (rows.map Prod.fst) [] pad);have kQ:=gQ (ri cN (rows.map Prod.fst) [] pad);have ks:=ph kP;refine aU ?_;refine jL [2] ?_;simp(disch:=omega) only[go_sem,seval,kP,ks];refine⟨afc,.inr ⟨q,_,_,_,kQ,jM.set kQ,?_⟩⟩;have ecs:(ri cN (rows.map Prod.fst) [] pad).take rows.length=bD (rows.map fun r=>mK cN r.1):=by rw[ri,List.map_nil,List.append_nil,List.take_append_of_le_length (by simp),List.take_of_length_le (by simp),bD,List.map_map,List.map_map];rfl
    have z8:rows.length+pad.length=c:=by rw[List.length_map]at a3;omega
    have hf:dd q (ri cN (rows.map Prod.fst) [] pad) (.ms q 0 rows.length c 1)= .sl (bD (rows.map fun r=>mK cN r.1)) .free:=by
     rw[ae_ (by rw[afd];simp) (by omega) (fun a ha=>?_),ecs];rcases List.mem_append.1 ha with ha|ha
     .rcases List.mem_append.1 ha with ha|ha
      .obtain⟨y,_,rfl⟩:=List.mem_map.1 ha;rfl
      .cases ha
     .exact a4 a ha
    have Qj:dd q (ri cN (rows.map Prod.fst) [] pad) o=o:=by
     rcases gb with⟨rfl,_⟩|⟨q2,c2,aCM,rfl,_⟩
     .rfl
     .rw[dd,if_neg fun e=>FM.2.2.2 (by rw[kH,e.1])]
    rw[dd];simp only[fB];rw[dd];simp only[fB];rw[hf,Qj,dd];refine afa (gb.keep fun i e=>?_) (fun i hi=>?_) fun i e=>by have:=hqo i e;omega
    .grind
    grind
theorem afg(w:Nat->KK)(l:List Int):∀n,n<=l.length->dot (kR l) w n=dl w 0 (l.take n)
 |0,_=>rfl
 |n+1,h=>by
  have ih:=afg w l n (by omega);have e:l.take (n+1)=l.take n++[l[n]]:=by rw[List.take_add_one,List.getElem?_eq_getElem (by omega)];rfl
  rw[e,EY,<-ih,List.length_take,Nat.min_eq_left (by omega),Nat.zero_add];show sm _ n+kR l n*w n=_;rw[show kR l n=kI l[n]by rw[kR,List.getD_eq_getElem?_getD,List.getElem?_eq_getElem (by omega)];rfl];show _=sm _ n+(kI l[n]*w n+0);grobner
theorem Vz(w:Nat->KK)(l):dot (kR l) w l.length=dl w 0 l:=by rw[afg w l _ (Nat.le_refl _),List.take_length]
theorem afh(w c r):dl w 0 (mK c r)=dl w 0 r:=by rw[mK,EY,K8];grobner
theorem as3{c r}(h:r.length<=c):(mK c r).length=c:=by rw[mK,List.length_append,List.length_replicate];omega
theorem afi(w:Nat->KK)(d)(h:0<d):dot (kR (nW d)) w d=w 0:=by
 have e:nW d=[1]++List.replicate (d-1) 0:=by obtain⟨k,rfl⟩:∃k,d=k+1:=⟨d-1,by omega⟩;rw[nW,List.replicate_succ];simp
 have:=Vz w (nW d);rw[show(nW d).length=d by simp[nW]]at this;rw[this,e,EY,K8];show kI 1*w 0+0+0=w 0;rw[Pc];grobner
theorem afj(rows:List (List Int×Int))(c who r):r∈m_ (rows.map fun x=>mK c x.1) (rows.map Prod.snd) who<->∃x∈rows,mz who x.2=true/\r=mK c x.1:=by
 have hz:(rows.map fun x=>mK c x.1).zip (rows.map Prod.snd)=rows.map fun x=>(mK c x.1,x.2):=by grind
 rw[m_,mZ,hz,List.map_map];constructor
 .intro h;obtain⟨⟨⟨a,b⟩,i⟩,h2,rfl⟩:=List.mem_map.1 h;grind
 .rintro⟨x,hx,hw,rfl⟩;have hm:(mK c x.1,x.2)∈rows.map fun x=>(mK c x.1,x.2):=List.mem_map.2 ⟨x,hx,rfl⟩;obtain⟨i,hi⟩:=List.mem_iff_getElem?.1 hm;exact List.mem_map.2 ⟨((mK c x.1,x.2),i),List.mem_filter.2 ⟨List.mem_zipIdx_iff_getElem?.2 hi,hw⟩,rfl⟩
theorem as4(R d)(w:Nat->KK):G6 (kT R) R.length d w<->∀r∈R,dot (kR r) w d=0:=by
 constructor
 .intro h r hr;obtain⟨i,hi⟩:=List.mem_iff_getElem?.1 hr;have:=h i (List.getElem?_eq_some_iff.1 hi).1;rwa [si hi]at this
 .intro h i hi;have e:=List.getElem?_eq_getElem hi;rw[si e];exact h _ (List.getElem_mem hi)
def yi(g:Gt):List (List Int):=(ka g).2.rows.map fun r=>mK (ka g).2.cN r.1
def Br(g:Gt):List Int:=(ka g).2.rows.map Prod.snd
def tp(g:Gt):Nat:=if(ka g).2.rows=[]then 1 else(ka g).2.cN
theorem as5{g}(hc:dp g=0)(hm:(ka g).1=true):Lo (tp g) (yi g) (Br g)/\(yi g=[]->tp g=1)/\
  ∀who,Sep (kT (m_ (yi g) (Br g) who)) (m_ (yi g) (Br g) who).length (tp g) (kR (nW (tp g)))<->ie (mz who) g=false:=by
 obtain⟨h1,h2,h3⟩:=(O0 g).1 hc;have hw:=PJ _ g (Nat.lt_succ_self _) h2;have tk:∀W,∃new,UX W (ie W g) [1] ⟨[],1⟩ (ka g).2 new:=fun W=>UZ W g [1] ⟨[],1⟩ (ka g).2 h3 hw (by decide) (by rw[<-hm];rfl);obtain⟨b1,b2,b3⟩:=PC g [1] ⟨[],1⟩ (by decide) (by decide) hm;rw[<-ka]at b1 b2 b3;have b2:1<=(ka g).2.cN:=b2;obtain⟨aCN,t0⟩:=tk fun _=>true;have en:∀W new,UX W (ie W g) [1] ⟨[],1⟩ (ka g).2 new->new=(ka g).2.rows:=fun W new t=>by have:=t.rows;grind
 have e0:=en _ _ t0;subst e0;have eD:=t0.ok (by decide);have hlen:∀x∈(ka g).2.rows,(mK (ka g).2.cN x.1).length=(ka g).2.cN:=fun x hx=>as3 (t0.EZ x hx);refine⟨⟨by rw[yi,List.length_map];exact b1,by rw[Br,yi,List.length_map,List.length_map],fun r hr=>?_,?_,?_,fun n hn=>?_⟩,fun e=>?_,fun who=>?_⟩
 .obtain⟨x,hx,rfl⟩:=List.mem_map.1 hr;rw[tp,if_neg (List.ne_nil_of_mem hx)];refine⟨hlen x hx,fun y hy=>?_⟩;rcases List.mem_append.1 hy with hy|hy
  .exact(eD x hx).2.1 y hy
  grind
 .rw[tp];split
  .decide
  .exact b2
 .rw[tp];split
  .decide
  .exact b3
 .obtain⟨x,hx,rfl⟩:=List.mem_map.1 hn;exact(eD x hx).2.2
 .rw[tp,if_pos (List.map_eq_nil_iff.1 e)]
 .obtain⟨new,t⟩:=tk (mz who);have e:=en _ _ t;subst e;have AL:0<tp g:=by rw[tp];split<;>omega
  have hn:∀w,G6 (kT (m_ (yi g) (Br g) who)) (m_ (yi g) (Br g) who).length (tp g) w<->∀x∈(ka g).2.rows,mz who x.2=true->dl w 0 x.1=0:=fun w=>by
   rw[as4];constructor
   .intro h x hx hW;have:=h _ ((afj _ _ _ _).2 ⟨x,hx,hW,rfl⟩);rw[tp,if_neg (List.ne_nil_of_mem hx)]at this;have e:=Vz w (mK (ka g).2.cN x.1);rw[hlen x hx]at e;rwa [e,afh]at this
   .intro h r hr;obtain⟨x,hx,hW,rfl⟩:=(afj _ _ _ _).1 hr;rw[tp,if_neg (List.ne_nil_of_mem hx)];have:=Vz w (mK (ka g).2.cN x.1);rw[hlen x hx]at this;rw[this,afh];exact h x hx hW
  have sr:∀w:Nat->KK,dl w 0 [1]=w 0:=fun w=>by show kI 1*w 0+0=w 0;rw[Pc];grobner
  constructor
  .rintro⟨w,Ab,OX⟩;rw[afi w _ AL]at OX;cases hh:ie (mz who) g with
   |false=>rfl
   |true=>
    have:=t.sat hh w ((hn w).1 Ab);grind
  .intro hh;obtain⟨r',q1,q2⟩:=t.K9 (fun _=>1) (fun e=>by rw[hh]at e;cases e);refine⟨r',(hn r').2 q2,?_⟩;rw[afi _ _ AL,q1 0 (by decide)];decide
theorem atO{g}(h:dp g=0){m}(hm:fV (-1) m=true):qR (x9 g) (oB (cm g) m)=!Fr.eZ g m:=by have hP:=wx h;rw[x9,acR hP (acM h) (acS _ _),apx];show(!Fr.eZ g _)=_;rw[Fr.aco h (T8 (acS _ _) (OR (zm h))) hm fun x hx=>?_];simp[oB,hx]
theorem PZ(ae x w):qR (ae++[x]) w=(qR ae w||decide (∀y∈x,y∈w)):=by simp[qR]
theorem afN{g}(he:fi g=0):iv g false=(jt g,0)/\iv g true=(x9 g,0)\/(iv g false).2=2\/(iv g false).2=0/\(iv g true).2=2:=by
 rw[iv,iv,if_pos he,if_pos he];split
 .exact .inr (.inl rfl)
 .split
  .exact .inr (.inr ⟨rfl,rfl⟩)
  .exact .inl ⟨rfl,rfl⟩
theorem afO{P Γ N σ h Q a b c}(kp G)(H:bw P Γ N a (iP (bw P Γ N b (PW kp G)) (PW kp G)) σ h)(T:∀σ h,G σ h->bw P Γ N c Q σ h):bw P Γ N (.seq a (.seq b c)) Q σ h:=
 fR (H.mono fun e σ h he=>by
  cases e with
  |normal=>exact VI kp G he T
  |_=>exact he.elim)
theorem afP(Γ g who h)(hs:Sh g)(hc:dp g=0)(hw:iS who=true)(mT:who.length<=1000)(ok)(eD:rZ g who=(ok,0)):
  AC Γ 17 [bM g,.sl (encI who) .free,.bool ok] h (.bool true):=by
 have LF:fV (-1) who=true:=by rw[PX];exact hw
 have vG:Fr.eZ g who=ok:=by rw[Fr.eZ,eD]
 have hhf:ie (mz who) g=ok:=by rw[<-vG,(KH hc LF).2];rfl
 have Uo:=J9 hc;have ko:(cm g).length<=1000:=anw (by omega);have c1:=fun h=>Tw Γ g who h hs (by omega);have c2:∀h,AC Γ 46 [bM g] h (if(ka g).1=true then .tuple [mY (yi g) (Br g),.int .i64 0]else .tuple [mY [] [],.int .i64 2]):=fun h=>asV Γ g h hs hc;have c3:=fun h=>TF Γ g h hs (by omega);have c4:=fun h=>HB Γ g h hs;have c5:=fun h=>atv Γ g h hs;have c8:=fun h=>abk Γ (cm g) who h (by omega) (by omega);have afR:=Fc hc LF;have afS:=atO hc LF;rw[vG]at afR afS;have hso:=fun he:fi g=0=>afN he;have hmo:=fun hm:(ka g).1=true=>as5 hc hm;have hle:∀b,(iv g b).1.length<=256:=fun b=>Lz g b;have iZ:∀b,∀s∈(iv g b).1,s.length<=12:=fun b s=>HD;have her:(cm g).length<=8->fi g=0:=fun k=>by rw[Fr.fi,if_pos hc,if_neg (by omega)]
 have VJ:∀x y,mY x y= .agg [.sl (bD x) .free,.sl (encI y) .free]:=fun x y=>by rw[mY,vz]
 refine az.drop ?_;obtain⟨a,n,l,hg⟩:∃a n l,g= .mk a n l:=by cases g with|mk a n l=>exact⟨a,n,l,rfl⟩
 have eg:bM g= .agg [.int .i64 a,.int .i64 n,.sl (l.map bM) .free]:=by rw[hg,iu]
 rw[eD,CH]at c1;rw[eg]at c1 c2 c3 c4 c5|-;refine tO [.tmp 6] Tryz.func17 ?_;refine cI ?_;refine cI ?_;refine bL (c1 _) ?_;refine fR ?_;refine gR ?_;refine afO [1,2,3] (fun σ hy=>σ=[(1,.sl (encI who) .free),(2,.bool ok),(3,.ptr (some (h.length,0)))]/\∃z,hy=h++[.row [.int .i64 a,.int .i64 n,.sl (l.map bM) .free] 49,z]) (gO ?_) ?_
 .refine aU ?_;refine az.cv (c2 _) ?_;by_cases hm:(ka g).1=true
  .obtain⟨K,EI,IT⟩:=hmo hm;have c6:=fun h=>asz Γ (tp g) (yi g) (Br g) who h K EI hw;have c7:=fun h=>asy Γ (tp g) (yi g) (Br g) who h K EI hw;have La:=IT who;have AL:=K.d0;have rN:=K.lr;rw[VJ]at c6 c7;rw[if_pos hm,VJ];refine aU ?_;refine gR ?_;refine(c6 _).mono ?_;cases ok with
   |true=>
    have nS:=fun k=>Bool.false_ne_true ((La.1 k).symm.trans hhf);rintro _ _ ⟨rfl,⟨-,y,hy,rfl⟩|⟨hS,rfl⟩⟩
    .refine aU ?_;refine(c7 _).mono ?_;rintro _ _ ⟨rfl,⟨hS,-⟩|⟨-,rfl⟩⟩
     .exact absurd hS nS
     .simp(disch:=omega) only[go_sem,seval,cc,jG];refine bu (aJ.pos (by rw[hy])) ?_;exact⟨_,rfl⟩
    .exact absurd hS nS
   |false=>
    have yS:=La.2 hhf;rintro _ _ ⟨rfl,⟨hC,-⟩|⟨-,rfl⟩⟩
    .exact absurd yS (aqM hC)
    .refine aU ?_;refine(c7 _).mono ?_;rintro _ _ ⟨rfl,⟨-,y,hy,rfl⟩|⟨hS,-⟩⟩
     .simp(disch:=omega) only[go_sem,seval,cc];refine bu (aJ.neg (by omega)) ?_;exact⟨_,rfl⟩
     .exact absurd yS hS
  .rw[if_neg hm,VJ];refine aU ?_;refine gR ?_;exact⟨_,rfl⟩
 .rintro _ _ ⟨rfl,z,rfl⟩;refine gR ?_;refine az.cv (c3 _) ?_;simp(disch:=omega) only[go_sem,seval,cc];refine aJ.intro (fun k8=>?_) (fun k8=>?_)<;>simp(disch:=omega) only[go_sem,seval];rcases afN (her (by omega))with⟨e1,e2⟩|e1|⟨e1,e2⟩
  .rw[e1,encS]at c4;rw[e2,encS]at c5;have Fa:(jt g).length<=256:=by have:=hle false;rwa [e1]at this
   have hlb:(x9 g).length<=256:=by have:=hle true;rwa [e2]at this
   have Eu:∀s∈jt g,s.length<=12:=by have:=iZ false;rwa [e1]at this
   have KE:∀s∈x9 g,s.length<=12:=by have:=iZ true;rwa [e2]at this
   refine bL (c4 _) ?_;refine bL (c5 _) ?_;obtain⟨H0,lU⟩:∃H0:AH,H0=h++[.row [.int .i64 a,.int .i64 n,.sl (l.map bM) .free] 49,z]:=⟨_,rfl⟩;have g0:H0[h.length]? =some (.row [.int .i64 a,.int .i64 n,.sl (l.map bM) .free] 49):=by rw[lU];simp
   rw[<-lU];refine d_ (β:=Bool) (jt g) [1,2,3,19,21,125,126,127] (fun ae b=>[(1,.sl (encI who) .free),(2,.bool ok),(3,.ptr (some (h.length,0))),(19,.sl (Fr.bD (x9 g)) .free),(21,.bool b),(125,.sl (Fr.bD (jt g)) .free),(126,.int .i64 (jt g).length),(127,.int .i64 ae.length)]) (fun _=>H0) (fun ae _ b=>b=qR ae who) false ?_ rfl rfl ?_ ?_
   .simp(disch:=omega) only[go_sem,seval,Fr.jG,List.length_nil]
   .rintro ae x r b hd rfl;have hlen:(jt g).length=ae.length+1+r.length:=by rw[hd];simp;omega
    have e3:(Fr.bD (jt g))[ae.length]? =some (.sl (encI x) .free):=by rw[hd];exact Fr.xW ..
    have hx:=Eu x (by rw[hd];simp);refine aU ?_;refine aJ.pos (by omega) ?_;simp(disch:=omega) only[go_sem,seval,e3];cases hb:qR ae who with
    |true=>
     refine aU ?_;refine cd true (by rw[PZ,hb];rfl) ?_ rfl;simp(disch:=omega) only[go_sem,seval,List.length_append]
    |false=>
     refine aU ?_;refine bL (N_ Γ x who _ (by omega) (by omega)) ?_;refine cd (decide (∀y∈x,y∈who)) (by rw[PZ,hb];rfl) ?_ rfl;simp(disch:=omega) only[go_sem,seval,List.length_append]
   .rintro _ rfl;refine aU ?_;refine jL [1,2,3,19,21] ?_;simp(disch:=omega) only[go_sem,seval,g0];refine bL (c3 _) ?_;refine bL (c8 _) ?_;refine d_ (β:=Bool) (x9 g) [1,2,3,21,24,25,142,143,144] (fun ae b=>[(1,.sl (encI who) .free),(2,.bool ok),(3,.ptr (some (h.length,0))),(21,.bool (qR (jt g) who)),(24,.bool b),(25,.sl (encI (oB (cm g) who)) .free),(142,.sl (Fr.bD (x9 g)) .free),(143,.int .i64 (x9 g).length),(144,.int .i64 ae.length)]) (fun _=>H0) (fun ae _ b=>b=qR ae (oB (cm g) who)) false ?_ rfl rfl ?_ ?_
    .simp(disch:=omega) only[go_sem,seval,Fr.jG,List.length_nil]
    .rintro ae x r b hd rfl;have hlen:(x9 g).length=ae.length+1+r.length:=by rw[hd];simp;omega
     have e3:(Fr.bD (x9 g))[ae.length]? =some (.sl (encI x) .free):=by rw[hd];exact Fr.xW ..
     have hx:=KE x (by rw[hd];simp);have aCX:(oB (cm g) who).length<=1000:=Nat.le_trans (List.length_filter_le _ _) ko;refine aU ?_;refine aJ.pos (by omega) ?_;simp(disch:=omega) only[go_sem,seval,e3];cases hb:qR ae (oB (cm g) who)with
     |true=>
      refine aU ?_;refine cd true (by rw[PZ,hb];rfl) ?_ rfl;simp(disch:=omega) only[go_sem,seval,List.length_append]
     |false=>
      refine aU ?_;refine bL (N_ Γ x (oB (cm g) who) _ (by omega) (by omega)) ?_;refine cd (decide (∀y∈x,y∈oB (cm g) who)) (by rw[PZ,hb];rfl) ?_ rfl;simp(disch:=omega) only[go_sem,seval,List.length_append]
    .rintro _ rfl;refine aU ?_;refine jL [2,21,24] ?_;rw[afR,afS];cases ok
     .refine aU ?_;exact⟨_,lU⟩
     .refine aU ?_;exact⟨_,lU⟩
  .refine az.cv (c4 _) ?_;simp(disch:=omega) only[go_sem,seval,encS];refine az.cv (c5 _) ?_;simp(disch:=omega) only[go_sem,seval,encS];rw[e1];exact dL
  .refine az.cv (c4 _) ?_;simp(disch:=omega) only[go_sem,seval,encS];refine az.cv (c5 _) ?_;simp(disch:=omega) only[go_sem,seval,encS];rw[e1,e2];exact dL
end Go.Proofs.YtmfjlankeocaoaaGreatDoor.Fr.L
namespace Go.Proofs.YtmfjlankeocaoaaGreatDoor.Sx
open Go Go.Proofs Go.aS
theorem sh0:lO pE:=⟨by simp[pE],by simp[pE],by simp[pE],by simp[pE],by simp[pE],by simp[pE],by simp[pE],by simp[pE],by rw[pE];exact .mk (by simp) (by simp) (by simp) (by omega) (by omega)⟩
theorem ex0:∀x∈exprs pE,dT x<=1000:=by simp[exprs,pE,dT,iJ]
theorem aue:dp pE≠0:=by decide+kernel
def o5(p:iq):List AV:=[.str ⟨⟨p.name⟩⟩,.sl (bq p.kinds) .free,.sl (bq p.bf) .free,.sl (p.rules.map bY) .free,.int .i64 p.change.k,.int .i64 p.change.n,.int .i64 p.change.no,.str ⟨⟨p.change.name⟩⟩,.sl (p.change.l.map aK) .free,.int .i64 p.mode]
theorem Bx(p):iI p= .agg (o5 p):=jj p
@[go_sem] theorem aC0(p):(o5 p).all AV.one=true:=(rfl)
@[go_sem] theorem aC1(p):(o5 p).drop 1= .sl (bq p.kinds) .free::(o5 p).drop 2:=(rfl)
@[go_sem] theorem aC2(p):(o5 p).drop 2= .sl (bq p.bf) .free::(o5 p).drop 3:=(rfl)
@[go_sem] theorem aC3(p):(o5 p).length=10:=(rfl)
@[go_sem] theorem aC4(p):(o5 p).take 10=o5 p:=(rfl)
@[go_sem] theorem aC5(p a b c d e f g h i j):iU [a,b,c,d,e,f,g,h,i,j] 0 (o5 p)=o5 p:=(rfl)
def By:Fr.Gt->List AV
 | .mk a n l=>[.int .i64 a,.int .i64 n,.sl (l.map Fr.bM) .free]
theorem Bz(g):Fr.bM g= .agg (By g):=by cases g;exact Fr.iu ..
@[go_sem] theorem aC6(g):(By g).all AV.one=true:=by cases g;rfl
@[go_sem] theorem aC7(g):(By g).length=3:=by cases g;rfl
@[go_sem] theorem aC8(g):(By g).take 3=By g:=by cases g;rfl
@[go_sem] theorem aC9(g a b c):iU [a,b,c] 0 (By g)=By g:=by cases g;rfl
theorem VP(o:List Tx):∀x:Ex,dB o (eU x)=dB o x
 | .mk k n no s l=>by have:∀y∈l,dB o (eU y)=dB o y:=fun y hy=>VP o y;rw[eU,dB,dB,Na,Na,CJ,List.map_map,List.map_congr_left (f:=dB o∘eU) (g:=dB o) this];rfl
theorem af7(o:List Tx):∀(l:List Rl) (i:Int),kB o i (l.map mD)=kB o i l
 |[],_=>rfl
 |r::l,i=>by rw[List.map_cons,kB,kB,af7 o l,uO,uO,mD,VP]
theorem auf{p}(h:dp p=0):sN p=p:=by have e:=ac1 h;rw[sN,km]at e;rw[sN];simp only at e;rwa [af7,VP]at e
theorem VQ:∀{x:Ex},fj x->fj (eU x)
 | .mk k n no s l,.mk h1 h2 h3 h4 h5=>by rw[eU,CJ];exact .mk (by rw[List.length_map];exact h1) (fun y hy=>by obtain⟨z,hz,rfl⟩:=List.mem_map.1 hy;exact VQ (h2 z hz)) h3 h4 h5
theorem aug{p}(h:lO p):lO (km p):=
 ⟨h.name,h.kinds,h.RI,h.bf,h.RJ,by rw[km,List.length_map];exact h.rules,fun r hr=>by obtain⟨z,hz,rfl⟩:=List.mem_map.1 hr;exact VQ (h.xD z hz),fun r hr=>by obtain⟨z,hz,rfl⟩:=List.mem_map.1 hr;exact h.aj4 z hz,VQ h.change⟩
theorem auh{p n}(h:∀x∈exprs p,dT x<=n):∀x∈exprs (km p),dT x<=n:=fun x hx=>by rw[UK]at hx;obtain⟨z,hz,rfl⟩:=List.mem_map.1 hx;rw[KQ];exact h z hz
theorem aui(Γ)(hk:Γ 0=some qD)(gH:Γ 1=some powC/\Γ 1000002=some [])(K5:Γ 1000000≠none)(p q kind value hs who h)(hp:lO p)(hq:lO q)(hl:hs.length<=9223372036854775807)(j7:∀l∈hs,l.length<=9223372036854775807)(hw:who.length<=9223372036854775807):
  AC Γ 3 [iI p,iI q,.int .i64 kind,.int .i64 value,.sl (fY hs) .free,.sl (encI who) .free] h (.bool true):=by
 have c0:=fun h=>SF Γ hk pE h sh0 ex0 (by simp[pE]);have c1:=fun h=>afK Γ p hs h hp hl j7;have c2:=fun h=>afK Γ q hs h hq hl j7;have c3:=fun h=>YZ Γ p h hp;have c4:=fun h=>YZ Γ q h hq;have c6:=fun h=>alN Γ who h hw;have De:=aue;refine az.drop ?_;rw[Bx]at c0 c1 c2 c3 c4;rw[Bx p,Bx q];refine tO [.tmp 12] Tryz.func3 ?_;refine cI ?_;refine cI ?_;refine az.tP (az.cv (c0 _) ?_) (by simp[eI,loose,bq,pE,o5,Ex.k,Ex.n,Ex.no,Ex.name,Ex.l]);refine aU ?_;refine bu (aJ.neg De) ?_;refine cI ?_;refine az.cv (c1 _) ?_;cases wN:HG p hs with
 |false=>simp(disch:=omega) only[go_sem,seval]
 |true=>
 refine aU ?_;refine az.cv (c2 _) ?_;cases hf2:HG q hs with
 |false=>simp(disch:=omega) only[go_sem,seval]
 |true=>
 refine aU ?_;refine bL (c3 _) ?_;refine aJ.intro (fun k1=>?_) (fun k1=>?_)<;>simp(disch:=omega) only[go_sem,seval];refine bL (c4 _) ?_;refine aJ.intro (fun k2=>?_) (fun k2=>?_)<;>simp(disch:=omega) only[go_sem,seval];have F:=afM hp wN;have G:=afM hq hf2;have c5:=fun h=>alQ Γ hs p.bf.length h F.n fun l hl=>by have:=F.l l hl;omega
 refine aJ.intro (fun k3=>?_) (fun k3=>?_)<;>simp(disch:=omega) only[go_sem,seval,kA];refine aJ.intro (fun k4=>?_) (fun k4=>?_)<;>simp(disch:=omega) only[go_sem,seval,kA];refine aJ.intro (fun k5=>?_) (fun k5=>?_)<;>simp(disch:=omega) only[go_sem,seval];refine aJ.intro (fun k6=>?_) (fun k6=>?_)<;>simp(disch:=omega) only[go_sem,seval];refine aJ.intro (fun k7=>?_) (fun k7=>?_)<;>simp(disch:=omega) only[go_sem,seval,kA];refine aJ.intro (fun k8=>?_) (fun k8=>?_)<;>simp(disch:=omega) only[go_sem,seval,kA];refine az.cv (c5 _) ?_;cases hH:j8 hs p.bf.length with
 |false=>simp(disch:=omega) only[go_sem,seval]
 |true=>
 refine aU ?_;refine az.cv (c6 _) ?_;cases hP:iS who with
 |false=>simp(disch:=omega) only[go_sem,seval]
 |true=>
 refine aU ?_;have hlen:=NI k1;have B:=apV k1;have eD:=apZ k1;have oJ:=ap2 k1;have iD:=ac9 _ eD;have c7:=fun h=>aog Γ p h (fun e=>by rw[e]at hlen;simp at hlen;omega) (by omega) fun x hx=>Nat.le_trans (F.sz x hx) (by omega);have c8:=fun h=>apR Γ gH K5 (km p) B h eD (by omega) (by omega);have c9:=fun h hl=>an6 Γ gH (km p) B h eD hl (by omega);have VT:=fun h=>SC Γ hk (km p) h (aug hp) (auh F.sz) (by rw[km,List.length_map];exact F.rl);have VU:=fun h=>YX Γ p h hp;rw[aqC k1]at VT;rw[auf k1,(xN k1).2.2.2.1,(xN k1).2.2.2.2]at VU;rw[Bx p]at c7 VU;rw[Bx (km p)]at c7 c8 c9 VT;obtain⟨src,tv⟩:∃src,ir (mW (km p))=src:=⟨_,rfl⟩;rw[tv]at c8 c9 iD;have mT:=JL hP;have rC:0<=kind/\kind<p.kinds.length:=by omega
 have hkq:0<=kind/\kind<q.kinds.length:=by omega
 have hvd:0<=value/\value<=1099511627776:=by omega
 have hHq:j8 hs q.bf.length=true:=by rw[<-k8];exact hH
 have pok:∀w,iS w=true->∃b,eZ p kind value hs w=(b,0):=fun w hw=>by obtain⟨r,hr,-,-⟩:=OH k1 rC;exact⟨_,OG k1 rC hvd hH hw hr⟩
 have qok:∀w,iS w=true->∃b,eZ q kind value hs w=(b,0):=fun w hw=>by obtain⟨r,hr,-,-⟩:=OH k2 hkq;exact⟨_,OG k2 hkq hvd hHq hw hr⟩
 have cp:=fun w (hw:w.length<=1000) h=>S7 Γ hk p kind value hs w h hp F.sz F.rl (F.KY hw);have cq:=fun w (hw:w.length<=1000) h=>S7 Γ hk q kind value hs w h hq G.sz G.rl (G.KY hw);have VW:=fun h=>aad Γ hk p hs who h hp F.sz F.rl (F.KY (by omega));have VX:=fun h=>adx Γ hk p kind value hs h F;have VY:=fun h=>aqv Γ hk p hs h F;have VZ:=fun h=>adx Γ hk q kind value hs h G;rw[Bx]at cp cq VW VX VY VZ;rw[Bz]at VX VY VZ;obtain⟨ok,vG⟩:=pok who hP;obtain⟨thn,V0⟩:=qok who hP;have y6:=TO k1 hH hP;obtain⟨may,aul⟩:∃may,mc 0 hs who p.change=may:=⟨_,rfl⟩;rw[aul]at y6;obtain⟨e1,f1⟩:=PY (p:=p) (kind:=kind) (value:=value) (hs:=hs) (who:=who) (by rw[vG]);obtain⟨e2,f2⟩:=atN (p:=p) (hs:=hs) (who:=who) (by rw[y6]);obtain⟨e3,f3⟩:=PY (p:=q) (kind:=kind) (value:=value) (hs:=hs) (who:=who) (by rw[V0]);rw[vG]at f1;rw[y6]at f2;rw[V0]at f3;rw[y6,AT]at VW;refine cI ?_;refine bL (c7 _) ?_;refine bL (c8 _) ?_;refine cI ?_;by_cases aum:65536<src.length
 .have c17:=fun h=>an9 Γ src h aum (by omega);have c18:=fun h=>SC Γ hk pE h sh0 ex0 (by simp[pE]);rw[Bx]at c17 c18;refine bL (c17 _) ?_;refine cI ?_;refine(c18 _).mono ?_;rintro _ _ ⟨rfl,q2,rfl,-⟩;rw[Bx];refine aU ?_;refine eQ ?_;simp(disch:=omega) only[go_sem,seval,oQ];rw[decide_eq_true (by omega)]
 refine bL (c9 _ (by omega)) ?_;refine cI ?_;refine(VT _).mono ?_;rintro _ _ ⟨rfl,q2,rfl,gq⟩;rw[gq rfl,ac1 k1,Bx];refine aU ?_;refine cI ?_;refine bL (VU _) ?_;refine cI ?_;refine az.cv (cp who (by omega) _) ?_;rw[vG,AT];refine aU ?_;refine cI ?_;refine bL (VW _) ?_;refine cI ?_;refine cI ?_;refine bL (VX _) ?_;refine Fr.VI [2,3,4,5,6,7,18,20,22,24,25] (fun σ hy=>hy=h++[.row (o5 p) 28,.row (o5 q) 28,.row (o5 (km p)) 28,.row (o5 p) 28,.row (By (kZ p kind value hs).1) 49]/\σ=[(2,.int .i64 kind),(3,.int .i64 value),(4,.sl (fY hs) .free),(5,.sl (encI who) .free),(6,.ptr (some (h.length,0))),(7,.ptr (some (h.length+1,0))),(18,.ptr (some (h.length+3,0))),(20,.bool ok),(22,.bool may),(24,.ptr (some (h.length+4,0))),(25,.bool (decide ((kZ p kind value hs).2=0)))]) (gO ?_) ?_
 .refine aU ?_;rcases e1 with e1|e1
  .obtain⟨g1,g2⟩:=f1 e1;have ca:=fun h=>Go.Proofs.YtmfjlankeocaoaaGreatDoor.Fr.L.afP Γ (kZ p kind value hs).1 who h g1 (VM e1) hP (by omega) ok g2;rw[Bz]at ca;rw[e1];refine aU ?_;exact qx (ca _)
  .rw[e1];exact dL
 rintro _ _ ⟨rfl,rfl⟩;refine Go.Proofs.YtmfjlankeocaoaaGreatDoor.Fr.L.afO [2,3,4,5,6,7,20,24,25] (fun σ hy=>(∃z,hy=h++[.row (o5 p) 28,.row (o5 q) 28,.row (o5 (km p)) 28,.row (o5 p) 28,.row (By (kZ p kind value hs).1) 49,z])/\σ=[(2,.int .i64 kind),(3,.int .i64 value),(4,.sl (fY hs) .free),(5,.sl (encI who) .free),(6,.ptr (some (h.length,0))),(7,.ptr (some (h.length+1,0))),(20,.bool ok),(24,.ptr (some (h.length+4,0))),(25,.bool (decide ((kZ p kind value hs).2=0)))]) (gO ?_) ?_
 .refine aU ?_;refine bL (VY _) ?_;refine gR ?_;rcases e2 with e2|e2
  .obtain⟨g1,g2⟩:=f2 e2;have ca:=fun h=>Go.Proofs.YtmfjlankeocaoaaGreatDoor.Fr.L.afP Γ (s8 p hs).1 who h g1 (atV e2) hP (by omega) may g2;rw[Bz]at ca;rw[e2];refine aU ?_;refine bL (ca _) ?_;exact⟨_,rfl⟩
  .rw[e2];refine aU ?_;exact⟨_,rfl⟩
 rintro _ _ ⟨⟨z,rfl⟩,rfl⟩;refine cI ?_;refine bL (VZ _) ?_;refine cI ?_;rcases e1 with e1|e1;rotate_left
 .rcases e3 with e3|e3
  .rw[e1,e3];exact dL
  .rw[e1,e3];exact dL
 rcases e3 with e3|e3;rotate_left
 .rw[e1,e3];exact dL
 have s1:=(f1 e1).1;have s3:=(f3 e3).1;have q1:=(f1 e1).2;have q3:=(f3 e3).2;have n1:=VM e1;have n3:=VM e3;have m3:∀w,iS w=true->(eZ q kind value hs w)=(Fr.eZ (kZ q kind value hs).1 w,0):=fun w hw=>by obtain⟨b,hb⟩:=qok w hw;have:=((PY (by rw[hb])).2 e3).2;rw[Fr.eZ,this,hb]
 have m1:∀w,iS w=true->(eZ p kind value hs w)=(Fr.eZ (kZ p kind value hs).1 w,0):=fun w hw=>by obtain⟨b,hb⟩:=pok w hw;have:=((PY (by rw[hb])).2 e1).2;rw[Fr.eZ,this,hb]
 rw[e1,e3];generalize(kZ p kind value hs).1=cZ at*;generalize(kZ q kind value hs).1=now at*;have l1:=Fr.J9 n1;have l3:=Fr.J9 n3;have c20:=fun h=>Fr.TF Γ cZ h s1 (by omega);have c21:=fun h=>Fr.TF Γ now h s3 (by omega);have HN:=fun h=>Fr.aud Γ cZ now h s1 s3;have HO:=fun h=>Fr.atE Γ cZ now h s1 s3;have P4:=fun h=>Fr.HB Γ cZ h s1;rw[Bz cZ]at c20 HN HO P4;rw[Bz now]at c21 HN HO;refine aU ?_;refine az.cv (c20 _) ?_;simp(disch:=omega) only[go_sem,seval,Fr.cc];refine aJ.intro (fun k20=>?_) (fun k20=>?_)<;>simp(disch:=omega) only[go_sem,seval];refine az.cv (c21 _) ?_;simp(disch:=omega) only[go_sem,seval,Fr.cc];refine aJ.intro (fun k21=>?_) (fun k21=>?_)<;>simp(disch:=omega) only[go_sem,seval];refine cI ?_;refine az.cv (cq who (by omega) _) ?_;rw[V0,AT];refine aU ?_;have ra:Fr.Rt cZ:=Fr.afw (by rw[Fr.fi,if_pos n1,if_neg (by omega)]) (by omega);have rb:Fr.Rt now:=Fr.afw (by rw[Fr.fi,if_pos n3,if_neg (by omega)]) (by omega);have hsl:=Fr.LB ra;have FA:∀x∈Fr.jt cZ,x.length<=12:=fun x hx=>Fr.HD (g:=cZ) (b:=false) (by rw[ra.r];exact hx);rw[ra.r,Fr.encS]at P4;have LF:Fr.fV (-1) who=true:=by rw[PX];exact hP
 rcases Fr.atU ra rb with⟨l,u1,u2,u3,u4,u5⟩|⟨s,u1,u2,u3,u4,u5,u6⟩
 .rw[u1,Fr.PV]at HN;rw[u2,Fr.PU]at HO;have LK:=fun h=>Fr.afY Γ cZ now (Fr.jt cZ) (l.map fun(k:Nat)=>(k:Int)) h s1 s3 (by omega) (fun x hx=>by have:=FA x hx;omega) (by rw[List.length_map];omega);rw[u3,Fr.P0,Bz,Bz]at LK;refine cI ?_;refine bL (HN _) ?_;refine cI ?_;refine bL (HO _) ?_;refine cI ?_;refine bL (P4 _) ?_;refine cI ?_;refine cI ?_;rw[Fr.ui];refine bL (LK _) ?_;refine cI ?_;have J3:thn=true->ok=true:=fun e=>by have:=u4 who LF (by rw[Fr.eZ,q3,e]);rwa [Fr.eZ,q1]at this
  cases thn with
  |false=>
   refine aU ?_;refine eQ ?_;exact dL
  |true=>
   rw[J3 rfl];refine aU ?_;refine eQ ?_;exact dL
 .rw[u1,Fr.PV]at HN;rw[u2,Fr.PU]at HO;have LK:=fun h=>Fr.afY Γ cZ now (Fr.jt cZ) [] h s1 s3 (by omega) (fun x hx=>by have:=FA x hx;omega) (by simp);rw[u3,Fr.P0,Bz,Bz]at LK;have V1:iS s=true:=by rw[iS,<-PX];exact u4
  have aDa:=JL V1;refine cI ?_;refine bL (HN _) ?_;refine cI ?_;refine bL (HO _) ?_;refine cI ?_;refine bL (P4 _) ?_;refine cI ?_;refine cI ?_;refine bL (LK _) ?_;refine cI ?_;refine cI ?_;refine cI ?_;refine az.cv (cq s (by omega) _) ?_;rw[m3 s V1,u5,AT];refine aU ?_;refine cI ?_;refine az.cv (cp s (by omega) _) ?_;rw[m1 s V1,u6,AT];refine aU ?_;exact Rx
end Go.Proofs.YtmfjlankeocaoaaGreatDoor.Sx
