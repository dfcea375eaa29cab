/- Parts of the proof of TopPolicy, joined: TopLd..FrMinP. No conditions. -/
import Derived.Test.YtmfjlankeocaoaaGreatDoorMC
import Derived.Test.YtmfjlankeocaoaaGreatDoorCards
import Derived.Test.YtmfjlankeocaoaaGreatDoorTie
import Derived.ProofKit
import Derived.OpenShut
import Derived.LaidMore
import Derived.Deep.DeepHandedRow
import Derived.Stop.LaidErr
import Derived.Lib.LaidTab
import Derived.Lib.ItoaNum
import Derived.Lib.Atoi
import Derived.Lib.Join
import Derived.WalkKit
import Derived.Lib.Walk
import Derived.Shelf.Sort.Plain
import Derived.Shelf.SlSortCmp.Kit1
import Derived.Shelf.SlSortCmp.Whole1
import Derived.Shelf.Slices.CompactI
set_option linter.all false
set_option maxRecDepth 100000
set_option maxHeartbeats 8000000
namespace Go.Proofs.YtmfjlankeocaoaaGreatDoor
open Go Go.Proofs Go.aS Go.RowKit
theorem own:ownKnob Tryz.prog.godebug=none:=by kernel_rfl
theorem amg:Tryz.prog.globalNamed "signatory/policies.kinds"=some 0:=by kernel_rfl
theorem amh:(Tryz.prog.globals[0]?).map (·.type)=some 164:=by kernel_rfl
theorem ami:Tryz.prog.cellsOf 86=1:=by kernel_rfl
theorem amj:Tryz.prog.cellsOf 164=5:=by kernel_rfl
theorem amk{W}(h:laidMetH Tryz.prog Rows.topPolicyRow.laid W):
  ∀i f,[310,311,312,313,314][i]? =some f->W.cell? ⟨0,i,none⟩=some (.func (.func f) #[] #[]):=by
 obtain⟨g,t,cs,fuel,p,hg,ht,hv,hd⟩:=h.funcs (n:= "signatory/policies.kinds") (.tail _ (.tail _ (.tail _ (.tail _ (.tail _ (.head _))))));obtain rfl:=Option.some.inj (amg.symm.trans hg);obtain rfl:=Option.some.inj (amh.symm.trans ht);obtain⟨xs,m,rfl,hx,hl,hn,hi⟩:=DataW.trod_array Tryz.underlying164 hd;have iX:xs.map (·.1)=[.held [115,105,103,110,97,116,111,114,121,47,112,111,108,105,99,105,101,115,46,107,105,110,100,115,36,49],.held [115,105,103,110,97,116,111,114,121,47,112,111,108,105,99,105,101,115,46,107,105,110,100,115,36,50],.held [115,105,103,110,97,116,111,114,121,47,112,111,108,105,99,105,101,115,46,107,105,110,100,115,36,51],.held [115,105,103,110,97,116,111,114,121,47,112,111,108,105,99,105,101,115,46,107,105,110,100,115,36,52],.held [115,105,103,110,97,116,111,114,121,47,112,111,108,105,99,105,101,115,46,107,105,110,100,115,36,53]]:=by have:=congrArg Prod.fst hx;exact(DataW.agg.inj this).symm
 rw[amj]at hl;rw[ami]at hi;intro i f hf;have hi5:i<5:=by have:=(List.getElem?_eq_some_iff.1 hf).1;simpa using this
 have h1:=hi i hi5;have Fp:=World.var?_cell hg hv i;rw[Fp];have h5:cs.size=5:=by simpa using hl
 have lF:i<cs.size:=by omega
 have N1:cs[i]? =some cs[i]:=Array.getElem?_eq_getElem lF;have hdt:(cs.toList.drop (i*1)).take 1=[cs[i]]:=by rw[Nat.mul_one,List.drop_eq_getElem_cons (by simpa using lF)];simp
 rw[hdt]at h1;rw[N1];have key:∀b r,(xs.map (·.1))[i]? =some (.held (b::r))->((List.range Tryz.prog.funcs.size).filter fun f=>(Tryz.prog.funcs[f]?).any (·.name.toUTF8.data.toList==b::r))=[f]->cs[i]= .func (.func f) #[] #[]:=fun b r e h2=>by rw[List.getElem?_map]at e;obtain⟨y,hy,hy2⟩:=Option.map_eq_some_iff.1 e;obtain⟨y1,q⟩:=y;simp only at hy2;subst hy2;rw[hy]at h1;exact func_of_trod Tryz.underlying86 h2 h1
 rw[iX]at key;congr 1;match i,hi5,hf with
 |0,_,hf=>cases hf;exact key _ _ rfl (by kernel_rfl)
 |1,_,hf=>cases hf;exact key _ _ rfl (by kernel_rfl)
 |2,_,hf=>cases hf;exact key _ _ rfl (by kernel_rfl)
 |3,_,hf=>cases hf;exact key _ _ rfl (by kernel_rfl)
 |4,_,hf=>cases hf;exact key _ _ rfl (by kernel_rfl)
theorem amm:(Tryz.prog.globals[1]?).map (·.type)=some 307:=by kernel_rfl
theorem amn:Tryz.prog.cellsOf 307=20:=by kernel_rfl
theorem amo:Tryz.prog.cellsOf 278=1:=by kernel_rfl
theorem amp:(Rows.laid_internal_strconv_uint64pow10:DataW Unit)=Lib.tabData .u64 Lib.pow10Tab:=by kernel_rfl
theorem aaD{W}(h:laidMetH Tryz.prog Rows.topPolicyRow.laid W):Lib.TabIs Tryz.prog W "internal/strconv.uint64pow10" .u64 Lib.pow10Tab:=by have h1:laidMet Tryz.prog [("math/bits.deBruijn32tab",Rows.laid_math_bits_deBruijn32tab),("math/bits.deBruijn64tab",Rows.laid_math_bits_deBruijn64tab),("internal/strconv.uint64pow10",Rows.laid_internal_strconv_uint64pow10),("strconv.ErrRange",Rows.laid_strconv_ErrRange),("strconv.ErrSyntax",Rows.laid_strconv_ErrSyntax)] W:=h.1;rw[amp]at h1;exact Lib.tabIs_of_head Sx.NZ amm Tryz.underlying307 Tryz.underlying278 amo amn h1.tail.tail
def Gk:GG:=fun g=>if g=0 then some qD else if g=1 then some Sx.powC else if g=1000000\/g=1000002 then some []else none
theorem amq{W}(h:laidMetH Tryz.prog Rows.topPolicyRow.laid W):∀g cs,Gk g=some cs->VR (AW W) (.bS cs) (.pointer (some ⟨g,0,none⟩)):=fun g cs e=>by
 unfold Gk at e;split at e
 .rename_i hg;subst hg;cases e;exact amb (amk h)
 split at e
 .rename_i hg;subst hg;cases e;have ht:=aaD h;have hl:∀(j:Nat) c,Sx.powC[j]? =some c->j<Lib.pow10Tab.length/\c= .int .u64 (Lib.pow10Tab.getD j 0):=fun j c e=>by rw[Sx.powC,List.getElem?_map]at e;grind
  refine .bS (fun j=> .int .u64 (Lib.pow10Tab.getD j 0)) (fun j c e=>?_) fun j c e=>?_
  .show W.cell? ⟨1,0+j,none⟩=_;rw[Nat.zero_add];exact ht.cell Sx.NZ j (hl j c e).1
  .rw[(hl j c e).2];exact .int _ _
 split at e
 .cases e;exact .bS (fun _=> .bool false) (fun j c e=>by simp at e) fun j c e=>by simp at e
 .cases e
theorem amr{W}(h:laidMetH Tryz.prog Rows.topPolicyRow.laid W):∀g cs,Gk (1000001+g)=some []->Gk g=some cs->∃vals T z,W.heap[g]? =some (.cells vals T z)/\vals.size=cs.length:=fun g cs e1 e2=>by
 have hg:g=1:=by
  unfold Gk at e1;rw[if_neg (by omega),if_neg (by omega)]at e1;split at e1
  .omega
  .cases e1
 subst hg;cases e2;have ht:=aaD h;rw[Lib.TabIs,World.var?,Sx.NZ,Option.bind_some]at ht;split at ht
 .rename_i vals T z hv;cases ht;exact⟨_,T,z,hv,by simp[Sx.powC]⟩
 .cases ht
noncomputable def low:Nat:=(World.holding Tryz.prog default ⟨#[],#[],[]⟩).heap.size
def lay(h:Array Obj)(g:Nat)(cs:Array Value):Array Obj:=h.modify g fun
 | .cells _ t frozen=> .cells cs t frozen
 |o=>o
def b32:Array Value:= #[.int .u8 0,.int .u8 1,.int .u8 28,.int .u8 2,.int .u8 29,.int .u8 14,.int .u8 24,.int .u8 3,.int .u8 30,.int .u8 22,.int .u8 20,.int .u8 15,.int .u8 25,.int .u8 17,.int .u8 4,.int .u8 8,.int .u8 31,.int .u8 27,.int .u8 13,.int .u8 23,.int .u8 21,.int .u8 19,.int .u8 16,.int .u8 7,.int .u8 26,.int .u8 12,.int .u8 18,.int .u8 6,.int .u8 11,.int .u8 5,.int .u8 10,.int .u8 9]
def b64:Array Value:= #[.int .u8 0,.int .u8 1,.int .u8 56,.int .u8 2,.int .u8 57,.int .u8 49,.int .u8 28,.int .u8 3,.int .u8 61,.int .u8 58,.int .u8 42,.int .u8 50,.int .u8 38,.int .u8 29,.int .u8 17,.int .u8 4,.int .u8 62,.int .u8 47,.int .u8 59,.int .u8 36,.int .u8 45,.int .u8 43,.int .u8 51,.int .u8 22,.int .u8 53,.int .u8 39,.int .u8 33,.int .u8 30,.int .u8 24,.int .u8 18,.int .u8 12,.int .u8 5,.int .u8 63,.int .u8 55,.int .u8 48,.int .u8 27,.int .u8 60,.int .u8 41,.int .u8 37,.int .u8 16,.int .u8 46,.int .u8 35,.int .u8 44,.int .u8 21,.int .u8 52,.int .u8 32,.int .u8 23,.int .u8 11,.int .u8 54,.int .u8 26,.int .u8 40,.int .u8 15,.int .u8 34,.int .u8 20,.int .u8 31,.int .u8 10,.int .u8 25,.int .u8 14,.int .u8 19,.int .u8 9,.int .u8 13,.int .u8 8,.int .u8 7,.int .u8 6]
noncomputable def Tf(os:Os):World:=
 let w0:=World.holding Tryz.prog os ⟨#[.cells #[.string ⟨#[105,110,118,97,108,105,100,32,115,121,110,116,97,120]⟩] 322,.cells #[.string ⟨#[118,97,108,117,101,32,111,117,116,32,111,102,32,114,97,110,103,101]⟩] 322],#[],[]⟩
 {w0 with heap:=lay (lay (lay (lay (lay (lay w0.heap 0 #[.func (.func 310) #[] #[],.func (.func 311) #[] #[],.func (.func 312) #[] #[],.func (.func 313) #[] #[],.func (.func 314) #[] #[]]) 1 (Lib.pow10Tab.map fun z=>Value.int .u64 z).toArray) 3 #[.iface 320 (.pointer (some ⟨low,0,none⟩))]) 4 #[.iface 320 (.pointer (some ⟨low+1,0,none⟩))]) 5 b32) 6 b64}
end Go.Proofs.YtmfjlankeocaoaaGreatDoor
namespace Go.Proofs.YtmfjlankeocaoaaGreatDoor.Sx
open Go Go.Proofs Go.aS
structure Tk where
 k:Int
 t:Tx
 n:Int
abbrev Ts:=List (Tk×Int)
def qF(p:Tk×Int):AV:= .agg [.int .i64 p.1.k,.str ⟨⟨p.1.t⟩⟩,.int .i64 p.1.n,.int .i64 p.2]
def eR(l:Ts):List AV:=l.map qF
def bC(s:Tx):Tk:=⟨1,s,0⟩
def fF(n:Int):Tk:=⟨2,[],n⟩
def bP(c:UInt8):Tk:=⟨3,[c],0⟩
theorem sX(l):(eR l).length=l.length:=by simp[eR]
theorem Gq:eR []=[]:=rfl
theorem aaE(x)(l:Ts):eR (x::l)=qF x::eR l:=rfl
theorem xR(l):db 4 (eR l):=db.map (f:=qF) (fun _=>⟨rfl,fun c hc=>by simp[qF,AV.cells]at hc;rcases hc with rfl|rfl|rfl|rfl<;>rfl⟩) l
theorem Tg(l):eI (eR l)=eR l:=uL _ (fun _=>by simp[qF,loose,eI]) l
def nu(l:Ts)(en:Int)(pc:List AV):List AV:= .sl (eR l) .free:: .int .i64 en::pc
def ln:Ts->Tx->Bool
 |[],_=>false
 |x::_,s=>decide (x.1.k≠2)&&(x.1.t==s)
theorem Cy(Γ i l en pc)(s:Tx)(h)(hi:h[i]? =some (.row (nu l en pc) 142))(hl:l.length<=1000000):
  AC Γ 201 [.ptr (some (i,0)),.str ⟨⟨s⟩⟩] h (.bool (ln l s)):=by
 rw[nu]at hi;refine az.drop ?_;refine cS [.tmp 4] Tryz.func201 ?_;cases l with
 |nil=>
  simp(disch:=omega) only[go_sem,seval,hi,Gq];rfl
 |cons x l=>
  simp only[List.length_cons]at hl;have e0:(eR (x::l))[0]? =some (.agg [.int .i64 x.1.k,.str ⟨⟨x.1.t⟩⟩,.int .i64 x.1.n,.int .i64 x.2]):=rfl;simp(disch:=omega) only[go_sem,seval,hi,aaE,sX,qF];refine aJ.pos (by omega) ?_;simp(disch:=omega) only[go_sem,seval,hi,e0];by_cases hk:x.1.k=2
  .rw[ln];simp(disch:=omega) only[go_sem,seval,hk]
  .rw[ln];simp(disch:=omega) only[go_sem,seval,hk,hi,e0,fK]
theorem aaF(Γ i x)(l:Ts)(en pc s h)(hi:h[i]? =some (.row (nu (x::l) en pc) 142))(hl:l.length<1000000)(hs:ln (x::l) s=true):
  az Tryz.prog Γ 149 [.ptr (some (i,0)),.str ⟨⟨s⟩⟩] h fun v h'=>h'=h.set i (.row (nu l en pc) 142)/\v= .bool true:=by
 refine cY [.tmp 4] Tryz.func149 ?_;refine az.cv (Cy Γ i _ en pc s h hi (by simp;omega)) ?_;rw[hs];rw[nu]at hi;simp(disch:=omega) only[go_sem,seval,hi,aaE,sX];exact⟨xR (x::l),by omega,rfl⟩
theorem amu(Γ i l en pc s h)(hi:h[i]? =some (.row (nu l en pc) 142))(hl:l.length<=1000000)(hs:ln l s=false):
  AC Γ 149 [.ptr (some (i,0)),.str ⟨⟨s⟩⟩] h (.bool false):=by
 refine cY [.tmp 4] Tryz.func149 ?_;refine az.cv (Cy Γ i _ en pc s h hi hl) ?_;rw[hs];exact dL
def zg:List Tx:=[[112,111,108,105,99,121],[109,111,100,101],[111,108,100],[110,101,119],[98,111,116,104],[101,105,116,104,101,114],[111,102,102,105,99,101],[107,105,110,100],[114,117,108,101],[116,104,105,110,107],[99,104,97,110,103,101],[115,111,109,101],[119,101,105,103,104,116],[111,102],[117,112,116,111],[101,108,115,101]]
theorem aaG(Γ h):AC Γ 140 [] h (.sl (bq zg) .free):=by refine az.ji ?_;refine cY [.tmp 0] Tryz.func140 ?_;exact⟨.qo fun r hr=>by simp at hr;rcases hr with rfl|rfl|rfl|rfl|rfl|rfl|rfl|rfl|rfl|rfl|rfl|rfl|rfl|rfl|rfl|rfl<;>exact .str _,rfl⟩
def pz(s:Tx):Bool:=decide (iK zg s<0)
theorem amv(Γ i s a)(l:Ts)(en pc h)(hi:h[i]? =some (.row (nu ((bC s,a)::l) en pc) 142))(hl:l.length<1000000)(hs:pz s=true):
  az Tryz.prog Γ 148 [.ptr (some (i,0))] h fun v h'=>h'=h.set i (.row (nu l en pc) 142)/\v= .str ⟨⟨s⟩⟩:=by
 have e0:(eR ((bC s,a)::l))[0]? =some (.agg [.int .i64 1,.str ⟨⟨s⟩⟩,.int .i64 0,.int .i64 a]):=rfl;have dN:=(List.getElem?_eq_some_iff.1 hi).1;rw[nu]at hi;have zU:iK zg s<0:=of_decide_eq_true hs;have hj:∀j,(h++j)[i]? =some (.row (.sl (eR ((bC s,a)::l)) .free:: .int .i64 en::pc) 142):=fun j=>by grind
 refine cS [.tmp 2] Tryz.func148 ?_;simp(disch:=omega) only[go_sem,seval,hi,sX,List.length_cons];refine aJ.neg (by omega) ?_;simp(disch:=omega) only[go_sem,seval,hi,e0];refine gY.intro (fun j=>aaG Γ _) ?_;simp(disch:=omega) only[go_sem,seval,hi,e0];refine gY.intro (fun j=>R9 Γ zg s _ (by decide)) ?_;rw[decide_eq_false (by omega)];simp(disch:=omega) only[go_sem,seval];refine aJ.neg (by omega) ?_;simp(disch:=omega) only[go_sem,seval,hi,e0,sX,List.length_cons];exact⟨xR _,by omega,rfl⟩
theorem amw(Γ i n a)(l:Ts)(en pc h)(hi:h[i]? =some (.row (nu ((fF n,a)::l) en pc) 142))(hl:l.length<1000000):
  az Tryz.prog Γ 203 [.ptr (some (i,0))] h fun v h'=>h'=h.set i (.row (nu l en pc) 142)/\v= .int .i64 n:=by
 have e0:(eR ((fF n,a)::l))[0]? =some (.agg [.int .i64 2,.str ⟨⟨[]⟩⟩,.int .i64 n,.int .i64 a]):=rfl;rw[nu]at hi;refine cS [.tmp 2] Tryz.func203 ?_;simp(disch:=omega) only[go_sem,seval,hi,sX,List.length_cons];refine aJ.neg (by omega) ?_;simp(disch:=omega) only[go_sem,seval,hi,e0,sX,List.length_cons];exact⟨xR _,by omega,rfl⟩
def N2:List Tx->Ts->Ts->Prop
 |[],l,r=>l=r
 |w::ws,l,r=>∃x m,l=x::m/\ln l w=true/\N2 ws m r
theorem amx(Γ i ws l r en pc h)(hi:h[i]? =some (.row (nu l en pc) 142))(hl:l.length<=1000000)(hw:N2 ws l r)(mT:ws.length<=100):
  az Tryz.prog Γ 147 [.ptr (some (i,0)),.sl (bq ws) .free] h fun v h'=>h'=h.set i (.row (nu r en pc) 142)/\v= .tuple []:=by
 refine cS [] Tryz.func147 ?_;simp(disch:=omega) only[go_sem,seval,kA];refine d_ (β:=Ts) ws [0,6,7,8] (fun ae _=>[(0,.ptr (some (i,0))),(6,.sl (bq ws) .free),(7,.int .i64 ws.length),(8,.int .i64 ae.length)]) (fun m=>h.set i (.row (nu m en pc) 142)) (fun _ rs m=>N2 rs m r/\m.length<=1000000) l ?_ ?_ ⟨hw,hl⟩ ?_ ?_
 .simp(disch:=omega) only[go_sem,seval,List.length_nil]
 .rw[ph hi]
 .rintro ae w rs m hd ⟨hm,Dj⟩;obtain⟨x,m',rfl,hx,Th⟩:=hm;have hlen:ws.length=ae.length+1+rs.length:=by rw[hd];simp;omega
  have e1:(bq ws)[ae.length]? =some (.str ⟨⟨w⟩⟩):=by rw[hd];exact yY ae rs w
  simp only[List.length_cons]at Dj;have dN:=(List.getElem?_eq_some_iff.1 hi).1;simp(disch:=omega) only[go_sem,seval];refine aJ.pos (by omega) ?_;simp(disch:=omega) only[go_sem,seval,e1];refine az.eT (aaF Γ i x m' en pc w _ (List.getElem?_set_self dN) (by omega) hx) ?_;simp(disch:=omega) only[go_sem,seval,List.set_set];refine cd m' ⟨Th,by omega⟩ ?_ rfl;simp(disch:=omega) only[go_sem,seval,List.length_append]
 .rintro m ⟨hm,-⟩;have hm:m=r:=hm;subst hm;simp(disch:=omega) only[go_sem,seval]
theorem amC(a b):∀acc,Lib.decFrom acc (a++[b])=(Lib.decFrom acc a).bind fun m=>(Lib.digitVal b).map (m*10+·):=by
 induction a with
 |nil=>
  intro acc;simp only[List.nil_append,Lib.decFrom,Option.bind_some];cases Lib.digitVal b<;>rfl
 |cons c a ih=>
  intro acc;simp only[List.cons_append,Lib.decFrom];cases Lib.digitVal c with
  |none=>rfl
  |some d=>exact ih _
theorem aaK{d}(h:d<10):Lib.digitVal (UInt8.ofNat (48+d))=some d/\oP (UInt8.ofNat (48+d))=true:=by
 have:(UInt8.ofNat (48+d)).toNat=48+d:=by rw[UInt8.toNat_ofNat'];omega
 rw[Lib.digitVal,oP,this];grind
theorem aaL:∀(k u:Nat),u<k->Lib.decFrom 0 (Lib.decDigits u)=some u/\(∀b∈Lib.decDigits u,oP b=true)/\Lib.decDigits u≠[]
 |0,_,h=>absurd h (Nat.not_lt_zero _)
 |k+1,u,h=>by
  rw[Lib.decDigits];split
  .rename_i hu;obtain⟨a,b⟩:=aaK hu;refine⟨?_,fun x hx=>by grind,by simp⟩;simp only[Lib.decFrom,a,Nat.zero_mul,Nat.zero_add]
  .rename_i hu;obtain⟨a,b⟩:=aaK (Nat.mod_lt u (by decide:0<10));obtain⟨c,d,e⟩:=aaL k (u/10) (by omega);refine⟨?_,fun x hx=>?_,by simp⟩
   .rw[amC,c,a];grind
   grind
theorem aaM:∀(k u:Nat),0<k->u<10^k->(Lib.decDigits u).length<=k
 |0,_,h,_=>absurd h (Nat.lt_irrefl _)
 |k+1,u,_,h=>by
  rw[Lib.decDigits];split
  .simp
  .rename_i hu;have hk:0<k:=by
    rcases Nat.eq_zero_or_pos k with rfl|hk
    .simp at h;omega
    .exact hk
   have:=aaM k (u/10) hk (by rw[Nat.pow_succ]at h;omega);grind
theorem amD{n}(h:0<=n):Lib.itoa n=Lib.decDigits n.toNat:=by rw[Lib.itoa,if_neg (by omega)]
theorem Ti{n}(h:0<=n)(h2:n<=1099511627776):Lib.atoi (Lib.itoa n)=some n/\(Lib.itoa n).length<=18/\(∀b∈Lib.itoa n,oP b=true)/\Lib.itoa n≠[]:=by
 rw[amD h];obtain⟨a,b,c⟩:=aaL _ n.toNat (Nat.lt_succ_self _);refine⟨?_,Nat.le_trans (aaM 13 n.toNat (by decide) (by omega)) (by decide),b,c⟩;cases hd:Lib.decDigits n.toNat with
 |nil=>exact absurd hd c
 |cons x r=>
  rw[hd]at a b;have hx:=b x (by simp);rw[oP,decide_eq_true_eq]at hx;have n1:(x==45)=false:=beq_eq_false_iff_ne.2 fun e=>by subst e;simp at hx
  have n2:(x==43)=false:=beq_eq_false_iff_ne.2 fun e=>by subst e;simp at hx
  rw[Lib.atoi,n1,n2];simp only[Bool.false_eq_true,if_false,Lib.decNat,List.isEmpty_cons,a,Option.map_some,Option.some.injEq];omega
def wh:Tx:=[112,111,108,105,99,121]
def u9:Tx:=[109,111,100,101]
def pA:Tx:=[111,102,102,105,99,101]
def qG:Tx:=[107,105,110,100]
def zi:Tx:=[114,117,108,101]
def wi:Tx:=[116,104,105,110,107]
def u_:Tx:=[99,104,97,110,103,101]
def Cz:Tx:=[115,111,109,101]
def CA:Tx:=[119,101,105,103,104,116]
def oV:Tx:=[111,102]
def sY:Tx:=[117,112,116,111]
def zj:Tx:=[101,108,115,101]
def kW:List Tx:=[[],[111,108,100],[110,101,119],[98,111,116,104],[101,105,116,104,101,114]]
mutual
def gd:Ex->List Tk
 | .mk k n _ s l=>if k=1 then[bC Cz,bC s]else if k=2 then[bC CA,fF n,bC oV,bC s]else if k=4 then bC sY::fF n::me false l else fF n::bC oV::bP 40::(kE false l++[bP 41])
def me:Bool->List Ex->List Tk
 |_,[]=>[]
 |b,x::r=>(if b then[bC zj]else[])++(bP 40::gd x++[bP 41])++me true r
def kE:Bool->List Ex->List Tk
 |_,[]=>[]
 |b,x::r=>(if b then[bP 44]else[])++gd x++kE true r
end
def oA(r:Rl):List Tk:=[bC zi,bC r.kind,bC wi,fF r.g_,bP 61]++gd r.x++[bP 59]
def j9(w:Tx)(l:List Tx):List Tk:=l.flatMap fun s=>[bC w,bC s,bP 59]
def mW(p:iq):List Tk:=[bC wh,bC p.name,bP 59,bC u9,bC (kW.getD p.mode.toNat []),bP 59]++j9 pA p.bf++j9 qG p.kinds++p.rules.flatMap oA++([bC u_,bP 61]++gd p.change++[bP 59])
inductive rU:Tk->Prop
 |nm {s:Tx} (h:l8 s=true):rU (bC s)
 |nb {n:Int} (h:0<=n) (h2:n<=1099511627776):rU (fF n)
 |sg {c:UInt8} (h:c=40\/c=41\/c=44\/c=59\/c=61):rU (bP c)
def wT(x:Tk):Tx:=if x.k=2 then Lib.itoa x.n else x.t
def ir(l:List Tk):Tx:=Lib.join (l.map wT) [32]
def va:Int->List Tk->Ts
 |_,[]=>[]
 |a,x::r=>(x,a)::va (a+(wT x).length+1) r
theorem Tj(x y l):ir (x::y::l)=wT x++32::ir (y::l):=by rw[ir,ir,List.map_cons,List.map_cons,Lib.join_cons,Lib.join_cons];simp[Lib.joinTail]
theorem Tl(x):ir [x]=wT x:=by rw[ir,List.map_singleton,Lib.join_one]
end Go.Proofs.YtmfjlankeocaoaaGreatDoor.Sx
namespace Go.aS
theorem az.zh{P Γ h f args}{R:AV->Prop}{h2}(hk:lJ h h2)(H:az P Γ f args h fun v h'=>(∃l,h'=h2++l)/\RB h.length (loose v)/\R (loose v)):az P Γ f args h fun v h'=>h'=h2/\R v:=
 az.MX hk ⟨H.1,fun G w vs hI hv=>(H.2 G w vs hI hv).mono fun e w' hr=>by obtain⟨v,G',av,h',rfl,h2,h3,h4,h5,h6,h7⟩:=hr;exact⟨v,G',loose av,h',rfl,h2,h3,Jh h4,h5,h6,h7⟩⟩
end Go.aS
namespace Go.Proofs.YtmfjlankeocaoaaGreatDoor.Sx
open Go Go.Proofs Go.aS
def Hp(h:AH)(i:Nat)(en:Int)(pc:List AV)(l:Ts):AH:=h.set i (.row (nu l en pc) 142)
theorem lq(h i en pc l):(Hp h i en pc l).length=h.length:=List.length_set
theorem p9{h i}(hi:i<h.length)(en pc l j):(Hp h i en pc l++j)[i]? =some (.row (nu l en pc) 142):=by rw[List.getElem?_append_left (by rw[lq];exact hi),Hp,List.getElem?_set_self hi]
theorem N3{h i}(hi:i<h.length)(en pc l m j):(Hp h i en pc l++j).set i (.row (nu m en pc) 142)=Hp h i en pc m++j:=by rw[List.set_append_left _ _ (by rw[lq];exact hi),Hp,List.set_set,Hp]
theorem amy(n l):RB n (.sl (eR l) .free):= .qo fun r hr=>by obtain⟨x,-,rfl⟩:=List.mem_map.1 hr;exact .Al (bB.cons (.int _ _) (bB.cons (.str _) (bB.cons (.int _ _) (bB.cons (.int _ _) (bB.nil _)))))
theorem Et{K K' j n n' o}(h:fX K j n o)(e:K.length=K'.length)(e2:n=n'):fX K' j n' o:=by
 subst e2;cases o with
 |bN i=>obtain⟨i',a,b⟩:=h;exact⟨i',by rw[<-e];exact a,b⟩
 |full=>trivial
 |free=>exact h
def encS(s:Tx):AV:= .str ⟨⟨s⟩⟩
theorem aaH(l:List (Ex×Ts)):db 5 (l.map fun p=>aK p.1):=by have:=pY (l.map (·.1));rwa [List.map_map]at this
theorem aaI(l:List (Tx×Ts)):db 1 (l.map fun p=>encS p.1):=db.map (f:=fun p:Tx×Ts=>encS p.1) (fun p=>⟨rfl,fun c hc=>by simp[encS,AV.cells]at hc;subst hc;rfl⟩) l
theorem aaJ(l:List (Rl×Ts)):db 8 (l.map fun p=>bY p.1):=by have:=FX (l.map (·.1));rwa [List.map_map]at this
def mA(pc:List AV):Prop:=∀n,bB n pc
theorem J0{h i en pc}(l)(hp:mA pc):lJ h (Hp h i en pc l):=
 lJ.set (show bB h.length _ from bB.cons (amy _ _) (bB.cons (.int _ _) (hp _))) (fun _ _ _=>by simp)
def Gr(Γ:GG){α:Type}(g:FuncId)(args:List AV)(i:Nat)(en:Int)(pc:List AV)(h0:AH)(enc:α->AV)(x:α)(tk:Ts):Prop:=
 ∀(m:Ts) (j:AH),(tk++m).length<=1000000->az Tryz.prog Γ g args (Hp h0 i en pc (tk++m)++j) fun v h'=>h'=Hp h0 i en pc m++j/\v=enc x
def eS{α:Type}(l:List (α×Ts)):Ts:=l.flatMap (·.2)
theorem N4{α}(l:List (α×Ts))(h:∀p∈l,p.2≠[]):l.length<=(eS l).length:=by
 induction l with
 |nil=>simp
 |cons p r ih=>
  have h1:=List.length_pos_iff.2 (h p (by simp));have h2:=ih fun q hq=>h q (by simp[hq]);simp only[eS,List.flatMap_cons,List.length_append,List.length_cons]at h2|-;omega
theorem amz(Γ g fs cs i en pc h)(hi:i<h.length)(Eh:mA pc)(w l m)(H:∀p∈l,Gr Γ g (fs++cs) i en pc h aK p.1 p.2)(hw:∀p∈l,ln p.2 w=true)(hm:ln m w=false)(hl:(eS l++m).length<=1000000):
  az Tryz.prog Γ 205 [.ptr (some (i,0)),.str ⟨⟨w⟩⟩,.func g fs cs] (Hp h i en pc (eS l++m)) fun v h'=>h'=Hp h i en pc m/\v= .sl (l.map fun p=>aK p.1) .free:=by
 have cV:∀p∈l,p.2≠[]:=fun p hp e=>by have:=hw p hp;rw[e]at this;cases this
 have kV:=N4 l cV;have N5:=hl;rw[List.length_append]at hl;have hk:lJ (Hp h i en pc (eS l++m)) (Hp h i en pc m):=by have:=J0 (h:=Hp h i en pc (eS l++m)) (i:=i) (en:=en) m Eh;rwa [show Hp (Hp h i en pc (eS l++m)) i en pc m=Hp h i en pc m by simp[Hp]]at this
 refine az.zh hk ?_;refine cY [.tmp 6] Tryz.func205 ?_;refine d_ (β:=aS.Own×AH×Ts) l [0,1,2,6] (fun ae b=>[(0,.ptr (some (i,0))),(1,.str ⟨⟨w⟩⟩),(2,.func g fs cs),(6,.sl (ae.map fun p=>aK p.1) b.1)]) (fun b=>Hp h i en pc b.2.2++b.2.1) (fun ae r b=>fX h b.2.1 ae.length b.1/\b.2.2=eS r++m) (.full,[],eS l++m) ?_ (by simp) ⟨trivial,rfl⟩ ?_ ?_
 .simp(disch:=omega) only[go_sem,seval,List.map_nil]
 .rintro ae ⟨x,tk⟩ r ⟨own,j,q⟩ hd ⟨ho,hq⟩;simp only at ho hq|-;have nk:(x,tk)∈l:=by rw[hd];simp
  have hlen:l.length=ae.length+1+r.length:=by rw[hd];simp;omega
  have gq:q=tk++(eS r++m):=by rw[hq];simp[eS]
  have sB:q.length<=1000000:=by
   have:(eS l).length=(eS ae).length+(eS ((x,tk)::r)).length:=by rw[hd];simp[eS]
   rw[hq,List.length_append];omega
  have Eu:ln q w=true:=by
   have:=hw _ nk;rw[gq];cases tk with
   |nil=>cases this
   |cons y tk=>exact this
  refine aU ?_;refine az.cv (Cy Γ i q en pc w _ (p9 hi en pc q j) sB) ?_;rw[Eu];refine aU ?_;refine bu (az.eT (H _ nk (eS r++m) j (by rw[<-gq];exact sB)|>.heap (by rw[gq]))) ?_;refine pV (Et ho (by rw[lq]) (by simp)) (aaH ae) (aaH [(x,tk)]) (by grind) (by grind) fun j' eY tY hg=>?_;refine aU ?_;refine cd (eY,j',eS r++m) ⟨Et tY (lq ..) (by simp),rfl⟩ ?_ rfl;simp(disch:=omega) only[go_sem,seval,List.map_append,List.map_cons,List.map_nil]
 .rintro⟨own,j,q⟩ ⟨ho,hq⟩;simp only at ho hq|-;have gq:q=m:=hq;subst gq;refine aU ?_;refine az.cv (Cy Γ i q en pc w _ (p9 hi en pc q j) (by omega)) ?_;rw[hm];refine aU ?_;refine fE [0,6] ?_;have e9:(l.map fun p=>aK p.1)=(l.map (·.1)).map aK:=by rw[List.map_map];rfl
  rw[e9,show eI ((l.map (·.1)).map aK)=_ from xC _];exact⟨(uM _ _).mpr trivial,rfl⟩
theorem amA(Γ g fs cs i en pc h)(hi:i<h.length)(Eh:mA pc)(w l m)(H:∀p∈l,Gr Γ g (fs++cs) i en pc h encS p.1 p.2)(hw:∀p∈l,ln p.2 w=true)(hm:ln m w=false)(hl:(eS l++m).length<=1000000):
  az Tryz.prog Γ 150 [.ptr (some (i,0)),.str ⟨⟨w⟩⟩,.func g fs cs] (Hp h i en pc (eS l++m)) fun v h'=>h'=Hp h i en pc m/\v= .sl (l.map fun p=>encS p.1) .free:=by
 have cV:∀p∈l,p.2≠[]:=fun p hp e=>by have:=hw p hp;rw[e]at this;cases this
 have kV:=N4 l cV;have N5:=hl;rw[List.length_append]at hl;have hk:lJ (Hp h i en pc (eS l++m)) (Hp h i en pc m):=by have:=J0 (h:=Hp h i en pc (eS l++m)) (i:=i) (en:=en) m Eh;rwa [show Hp (Hp h i en pc (eS l++m)) i en pc m=Hp h i en pc m by simp[Hp]]at this
 refine az.zh hk ?_;refine cY [.tmp 6] Tryz.func150 ?_;refine d_ (β:=aS.Own×AH×Ts) l [0,1,2,6] (fun ae b=>[(0,.ptr (some (i,0))),(1,.str ⟨⟨w⟩⟩),(2,.func g fs cs),(6,.sl (ae.map fun p=>encS p.1) b.1)]) (fun b=>Hp h i en pc b.2.2++b.2.1) (fun ae r b=>fX h b.2.1 ae.length b.1/\b.2.2=eS r++m) (.full,[],eS l++m) ?_ (by simp) ⟨trivial,rfl⟩ ?_ ?_
 .simp(disch:=omega) only[go_sem,seval,List.map_nil]
 .rintro ae ⟨x,tk⟩ r ⟨own,j,q⟩ hd ⟨ho,hq⟩;simp only at ho hq|-;have nk:(x,tk)∈l:=by rw[hd];simp
  have hlen:l.length=ae.length+1+r.length:=by rw[hd];simp;omega
  have gq:q=tk++(eS r++m):=by rw[hq];simp[eS]
  have sB:q.length<=1000000:=by
   have:(eS l).length=(eS ae).length+(eS ((x,tk)::r)).length:=by rw[hd];simp[eS]
   rw[hq,List.length_append];omega
  have Eu:ln q w=true:=by
   have:=hw _ nk;rw[gq];cases tk with
   |nil=>cases this
   |cons y tk=>exact this
  refine aU ?_;refine az.cv (Cy Γ i q en pc w _ (p9 hi en pc q j) sB) ?_;rw[Eu];refine aU ?_;refine bu (az.eT (H _ nk (eS r++m) j (by rw[<-gq];exact sB)|>.heap (by rw[gq]))) ?_;refine⟨⟨rfl,rfl⟩,?_⟩;refine pV (Et ho (by rw[lq]) (by simp)) (aaI ae) (aaI [(x,tk)]) (by grind) (by grind) fun j' eY tY hg=>?_;refine aU ?_;refine cd (eY,j',eS r++m) ⟨Et tY (lq ..) (by simp),rfl⟩ ?_ rfl;simp(disch:=omega) only[go_sem,seval,List.map_append,List.map_cons,List.map_nil]
 .rintro⟨own,j,q⟩ ⟨ho,hq⟩;simp only at ho hq|-;have gq:q=m:=hq;subst gq;refine aU ?_;refine az.cv (Cy Γ i q en pc w _ (p9 hi en pc q j) (by omega)) ?_;rw[hm];refine aU ?_;refine fE [0,6] ?_;have e9:(l.map fun p=>encS p.1)=(l.map (·.1)).map encS:=by rw[List.map_map];rfl
  rw[e9,show eI ((l.map (·.1)).map encS)=_ from Jj _];exact⟨(DV _ _).mpr trivial,rfl⟩
theorem amB(Γ g fs cs i en pc h)(hi:i<h.length)(Eh:mA pc)(w l m)(H:∀p∈l,Gr Γ g (fs++cs) i en pc h bY p.1 p.2)(hw:∀p∈l,ln p.2 w=true)(hm:ln m w=false)(hl:(eS l++m).length<=1000000):
  az Tryz.prog Γ 152 [.ptr (some (i,0)),.str ⟨⟨w⟩⟩,.func g fs cs] (Hp h i en pc (eS l++m)) fun v h'=>h'=Hp h i en pc m/\v= .sl (l.map fun p=>bY p.1) .free:=by
 have cV:∀p∈l,p.2≠[]:=fun p hp e=>by have:=hw p hp;rw[e]at this;cases this
 have kV:=N4 l cV;have N5:=hl;rw[List.length_append]at hl;have hk:lJ (Hp h i en pc (eS l++m)) (Hp h i en pc m):=by have:=J0 (h:=Hp h i en pc (eS l++m)) (i:=i) (en:=en) m Eh;rwa [show Hp (Hp h i en pc (eS l++m)) i en pc m=Hp h i en pc m by simp[Hp]]at this
 refine az.zh hk ?_;refine cY [.tmp 6] Tryz.func152 ?_;refine d_ (β:=aS.Own×AH×Ts) l [0,1,2,6] (fun ae b=>[(0,.ptr (some (i,0))),(1,.str ⟨⟨w⟩⟩),(2,.func g fs cs),(6,.sl (ae.map fun p=>bY p.1) b.1)]) (fun b=>Hp h i en pc b.2.2++b.2.1) (fun ae r b=>fX h b.2.1 ae.length b.1/\b.2.2=eS r++m) (.full,[],eS l++m) ?_ (by simp) ⟨trivial,rfl⟩ ?_ ?_
 .simp(disch:=omega) only[go_sem,seval,List.map_nil]
 .rintro ae ⟨x,tk⟩ r ⟨own,j,q⟩ hd ⟨ho,hq⟩;simp only at ho hq|-;have nk:(x,tk)∈l:=by rw[hd];simp
  have hlen:l.length=ae.length+1+r.length:=by rw[hd];simp;omega
  have gq:q=tk++(eS r++m):=by rw[hq];simp[eS]
  have sB:q.length<=1000000:=by
   have:(eS l).length=(eS ae).length+(eS ((x,tk)::r)).length:=by rw[hd];simp[eS]
   rw[hq,List.length_append];omega
  have Eu:ln q w=true:=by
   have:=hw _ nk;rw[gq];cases tk with
   |nil=>cases this
   |cons y tk=>exact this
  refine aU ?_;refine az.cv (Cy Γ i q en pc w _ (p9 hi en pc q j) sB) ?_;rw[Eu];refine aU ?_;refine bu (az.eT (H _ nk (eS r++m) j (by rw[<-gq];exact sB)|>.heap (by rw[gq]))) ?_;refine⟨⟨by rw[Ji];rfl,by rw[DU];rfl⟩,?_⟩;refine pV (Et ho (by rw[lq]) (by simp)) (aaJ ae) (aaJ [(x,tk)]) (by grind) (by grind) fun j' eY tY hg=>?_;refine aU ?_;refine cd (eY,j',eS r++m) ⟨Et tY (lq ..) (by simp),rfl⟩ ?_ rfl;simp(disch:=omega) only[go_sem,seval,List.map_append,List.map_cons,List.map_nil]
 .rintro⟨own,j,q⟩ ⟨ho,hq⟩;simp only at ho hq|-;have gq:q=m:=hq;subst gq;refine aU ?_;refine az.cv (Cy Γ i q en pc w _ (p9 hi en pc q j) (by omega)) ?_;rw[hm];refine aU ?_;refine fE [0,6] ?_;have e9:(l.map fun p=>bY p.1)=(l.map (·.1)).map bY:=by rw[List.map_map];rfl
  rw[e9,show eI ((l.map (·.1)).map bY)=_ from M7 _];exact⟨(RA _ _).mpr trivial,rfl⟩
end Go.Proofs.YtmfjlankeocaoaaGreatDoor.Sx
namespace Go.aS
open Go
def N6(ops:Array Oper)(dep:List (List Nat)):Bool:=(List.range ops.size).all fun i=>match ops[i]? with
 |none=>true
 |some o=>((dep.getD i []).all fun d=>o.after.toList.any fun e=>Region.binds .any e&&e.on==d)&&o.after.toList.all fun e=>!Region.binds .any e||Nat.blt e.on i
theorem aaN{ops dep}(hd:N6 ops dep=true):∀(fuel) (listed) (done),listed.size=ops.size->(∀i<ops.size,listed.getD i true=true<->i∈done)->(rem ops listed).length<=fuel->∀l∈xF ops fuel listed,uW ops.size dep done l=true:=by
 have fin:∀(listed:Array Bool) (done:List Nat),(∀i<ops.size,listed.getD i true=true<->i∈done)->rem ops listed=[]->uW ops.size dep done []=true:=fun listed done h1 h2=>by
  rw[uW,List.all_eq_true];intro i hi;have qI:=List.mem_range.1 hi;have:=(h1 i qI).1;cases e:listed.getD i true with
  |true=>simpa using this e
  |false=>have:=pa.2 ⟨qI,e⟩;rw[h2]at this;cases this
 have at_:∀i (o:Oper),ops[i]? =some o->(∀d∈dep.getD i [],∃e∈o.after.toList,Region.binds .any e=true/\e.on=d)/\∀e∈o.after.toList,Region.binds .any e=true->e.on<i:=fun i o ho=>by
  have:=List.all_eq_true.1 hd i (List.mem_range.2 (Array.getElem?_eq_some_iff.1 ho).1);rw[ho]at this;simp only[Bool.and_eq_true,List.all_eq_true,List.any_eq_true,Bool.or_eq_true,Bool.not_eq_true',beq_iff_eq]at this;refine⟨fun d h=>this.1 d h,fun e he hb=>?_⟩;rcases this.2 e he with h|h
  .rw[hb]at h;cases h
  .exact Nat.le_of_ble_eq_true h
 intro fuel;induction fuel with
 |zero=>
  intro listed done hs h1 h2 l hl;rw[xF,List.mem_singleton]at hl;grind
 |succ fuel ih=>
  intro listed done hs h1 h2 l hl;rw[xF]at hl;split at hl
  .rename_i hr;rw[List.mem_singleton]at hl;subst hl;refine fin listed done h1 ?_;cases NB:rem ops listed with
   |nil=>rfl
   |cons i r=>
    exfalso;have hi:=pa.1 (show i∈rem ops listed by rw[NB];simp);have dN:∀j∈rem ops listed,i<=j:=fun j hj=>by
     have:=DB (ops:=ops) listed;rw[NB]at this hj;rcases List.mem_cons.1 hj with rfl|hj
     .exact Nat.le_refl _
     .exact Nat.le_of_lt ((List.pairwise_cons.1 this).1 j hj)
    have:i∈Region.ready .any ops listed:=by
     unfold Region.ready;refine List.mem_filter.2 ⟨List.mem_range.2 hi.1,?_⟩;have ho:ops[i]? =some ops[i]:=by simp[hi.1]
     rw[ho,hi.2];simp only[Bool.not_false,Bool.true_and,Option.map_some,Option.getD_some];rw[Array.all_eq_true_iff_forall_mem];intro e he;rw[Bool.or_eq_true,Bool.not_eq_true'];cases hb:Region.binds .any e with
     |false=>exact .inl rfl
     |true=>
      right;have hei:=(at_ i _ ho).2 e (by simpa using he) hb;have hes:e.on<ops.size:=by omega
      cases hg:listed.getD e.on true with
      |false=>have:=dN _ (pa.2 ⟨hes,hg⟩);omega
      |true=>grind
    rw[hr]at this;cases this
  .rename_i r _;obtain⟨i,hi,hl⟩:=List.mem_flatMap.1 hl;obtain⟨l',Js,rfl⟩:=List.mem_map.1 hl;unfold Region.ready at hi;obtain⟨oS,hi⟩:=List.mem_filter.1 hi;have oS:=List.mem_range.1 oS;have ho:ops[i]? =some ops[i]:=by simp[oS]
   rw[ho,Bool.and_eq_true,Bool.not_eq_true',Option.map_some,Option.getD_some,Array.all_eq_true_iff_forall_mem]at hi;have nk:=pa.2 ⟨oS,hi.1⟩;obtain⟨L1,L2,e1,e2,_⟩:=Mz hs nk;have iF:i∉done:=fun e=>by grind
   rw[uW,Bool.and_eq_true,Bool.and_eq_true,Bool.and_eq_true];refine⟨⟨⟨Nat.ble_eq_true_of_le oS,?_⟩,by simpa using iF⟩,ih _ (i::done) (by simpa using hs) (fun j hj=>?_) (by grind) l' Js⟩
   .grind
   .by_cases e:j=i
    .subst e;simp[DC (show j<listed.size by omega)]
    .rw[tK (Ne.symm e),h1 j hj];simp[e]
theorem N7{P Γ N σ Q h id ops}(dep)(Iv:List Nat->Tm->AH->Prop)(hm:P.follows .mixedOrders=true)(hd:mi N ops=true)(hg:(ops.toList.all fun o=>o.guard.isNone)=true)
  (ho:N6 ops dep=true)(h0:Iv [] σ h)
  (step:∀(i) (o),ops[i]? =some o->∀(done) (σ) (h),Iv done σ h->(∀d∈dep.getD i [],d∈done)->(∀d∈done,∀e∈dep.getD d [],e∈done)->i∉done->∀C,(∀v h',Iv (i::done) (put o.dst v σ) h'->C v σ h')->pQ P Γ o C σ h)
  (fin:∀(done) (σ) (h),(∀i<ops.size,i∈done)->Iv done σ h->Q .normal σ h):
  bw P Γ N (.region id ops true) Q σ h:=
 Nh hm hd fun l hl=>SR dep Iv hg step fin l [] σ h (aaN ho _ _ _ (by simp) (fun i hi=>by simp_all) (by rw[Cb];simp) l hl) (fun _ h=>by simp at h) h0
theorem AX(σ:Tm):∀(σ':Tm),(∀p∈σ',lk σ p.1=p.2)->∀i,lk σ' i=lk σ i\/lk σ' i= .top
 |[],_,i=> .inr rfl
 |(j,v)::r,h,i=>by
  rw[I2];split
  .simp_all
  .exact AX σ r (fun p hp=>h p (by simp[hp])) i
theorem amF{P Γ N mV Q id ops}(dep FR)(val:Nat->AV)(H:List Nat->AH)(hm:P.follows .mixedOrders=true)(hd:mi N ops=true)(cP:NK FR ops=true)(hg:(ops.toList.all fun o=>o.guard.isNone)=true)
  (ho:N6 ops dep=true)
  (step:∀(i) (o),ops[i]? =some o->∀(done) (σ),(∀d∈dep.getD i [],d∈done)->(∀d∈done,∀e∈dep.getD d [],e∈done)->i∉done->(∀t∈FR,lk σ t=lk mV t)->(∀d∈done,d<ops.size->lk σ (wg ops d)=val d)->∀C,C (val i) σ (H (i::done))->pQ P Γ o C σ (H done))
  (fin:∀(done) (σ),(∀i<ops.size,i∈done)->(∀t∈FR,lk σ t=lk mV t)->(∀i<ops.size,lk σ (wg ops i)=val i)->Q .normal σ (H done)):
  bw P Γ N (.region id ops true) Q mV (H []):=
 ZZ dep FR val H hm hd cP hg (List.all_eq_true.2 (aaN ho _ _ _ (by simp) (fun i hi=>by simp_all) (by rw[Cb];simp))) step fin
end Go.aS
namespace Go.aS
open Go Go.RowKit
def amG(FR:List Nat)(ops:Array Oper):Bool:=(List.range ops.size).all fun i=>match(ops[i]?).bind (·.dst)with
 |none=>true
 |some t=>!FR.contains t&&(List.range ops.size).all fun j=>i==j||(ops[j]?).bind (·.dst) !=some t
theorem Tn{P Γ N mV Q id ops}(dep FR)(val:Nat->AV)(H:List Nat->AH)(hm:P.follows .mixedOrders=true)(hd:mi N ops=true)(cP:amG FR ops=true)(hg:(ops.toList.all fun o=>o.guard.isNone)=true)
  (ho:N6 ops dep=true)
  (step:∀(i) (o),ops[i]? =some o->∀(done:List Nat) (σ),(∀d∈dep.getD i [],d∈done)->(∀d∈done,∀e∈dep.getD d [],e∈done)->i∉done->(∀t∈FR,lk σ t=lk mV t)->(∀d∈done,∀t,(ops[d]?).bind (·.dst)=some t->lk σ t=val d)->∀C,C (val i) σ (H (i::done))->pQ P Γ o C σ (H done))
  (fin:∀(done) (σ),(∀i<ops.size,i∈done)->(∀t∈FR,lk σ t=lk mV t)->(∀i t,(ops[i]?).bind (·.dst)=some t->lk σ t=val i)->Q .normal σ (H done)):
  bw P Γ N (.region id ops true) Q mV (H []):=by
 refine N7 dep (fun done σ h=>h=H done/\(∀t∈FR,lk σ t=lk mV t)/\∀d∈done,∀t,(ops[d]?).bind (·.dst)=some t->lk σ t=val d) hm hd hg ho ⟨rfl,fun _ _=>rfl,fun d hd=>by cases hd⟩ ?_ ?_
 .rintro i o iG done σ h ⟨rfl,h1,h2⟩ h3 h4 h5 C hC;refine step i o iG done σ h3 h4 h5 h1 h2 C (hC _ _ ?_);have hi:i<ops.size:=(Array.getElem?_eq_some_iff.1 iG).1;have hw:=List.all_eq_true.1 cP i (List.mem_range.2 hi);have eb:(ops[i]?).bind (·.dst)=o.dst:=by rw[iG];rfl
  rw[eb]at hw;cases e:o.dst with
  |none=>
   refine⟨rfl,h1,fun d hd t ht=>?_⟩;rcases List.mem_cons.1 hd with rfl|hd
   .rw[eb,e]at ht;cases ht
   .exact h2 d hd t ht
  |some u=>
   rw[e]at hw;simp only[Bool.and_eq_true,Bool.not_eq_true',List.all_eq_true,List.mem_range,Bool.or_eq_true,beq_iff_eq,bne_iff_ne]at hw;refine⟨rfl,fun t ht=>?_,fun d hd t ht=>?_⟩
   .rw[put,I2,if_neg]
    .exact h1 t ht
    grind
   .rcases List.mem_cons.1 hd with rfl|hd
    .rw[eb,e]at ht;cases ht;rw[put,I2,if_pos rfl]
    .rw[put,I2,if_neg]
     .exact h2 d hd t ht
     grind
 grind
end Go.aS
namespace Go.Proofs.YtmfjlankeocaoaaGreatDoor.Sx
open Go Go.Proofs Go.aS
section
variable (Γ:GG) {h:AH} {i:Nat} (hi:i<h.length) (en:Int) (pc:List AV)
include hi
theorem N8(x)(l:Ts)(s j)(hl:l.length<1000000)(hs:ln (x::l) s=true):
  az Tryz.prog Γ 149 [.ptr (some (i,0)),.str ⟨⟨s⟩⟩] (Hp h i en pc (x::l)++j) fun v h'=>h'=Hp h i en pc l++j/\v= .bool true:=
 (aaF Γ i x l en pc s _ (p9 hi ..) hl hs).mono fun v h' e=>by rw[N3 hi]at e;exact e
theorem takeN(l s j)(hl:l.length<=1000000)(hs:ln l s=false):
  az Tryz.prog Γ 149 [.ptr (some (i,0)),.str ⟨⟨s⟩⟩] (Hp h i en pc l++j) fun v h'=>h'=Hp h i en pc l++j/\v= .bool false:=
 amu Γ i l en pc s _ (p9 hi ..) hl hs
theorem rV(ws l r j)(hl:l.length<=1000000)(hw:N2 ws l r)(mT:ws.length<=100):
  az Tryz.prog Γ 147 [.ptr (some (i,0)),.sl (bq ws) .full] (Hp h i en pc l++j) fun v h'=>h'=Hp h i en pc r++j/\v= .tuple []:=
 ((amx Γ i ws l r en pc _ (p9 hi ..) hl hw mT).tP (by simp[eI,loose,Jj])).mono fun v h' e=>by rw[N3 hi]at e;exact e
theorem J1(s a)(l:Ts)(j)(hl:l.length<1000000)(hs:pz s=true):
  az Tryz.prog Γ 148 [.ptr (some (i,0))] (Hp h i en pc ((bC s,a)::l)++j) fun v h'=>h'=Hp h i en pc l++j/\v= .str ⟨⟨s⟩⟩:=
 (amv Γ i s a l en pc _ (p9 hi ..) hl hs).mono fun v h' e=>by rw[N3 hi]at e;exact e
theorem N9(n a)(l:Ts)(j)(hl:l.length<1000000):
  az Tryz.prog Γ 203 [.ptr (some (i,0))] (Hp h i en pc ((fF n,a)::l)++j) fun v h'=>h'=Hp h i en pc l++j/\v= .int .i64 n:=
 (amw Γ i n a l en pc _ (p9 hi ..) hl).mono fun v h' e=>by rw[N3 hi]at e;exact e
end
theorem p_(h i en pc q j k):(Hp h i en pc q++j)[h.length+k]? =j[k]? :=by rw[<-lq h i en pc q];exact nK ..
theorem nU(h i en pc q j):(Hp h i en pc q++j)[h.length]? =j[0]? :=p_ h i en pc q j 0
theorem sZ(h i en pc q j k c):(Hp h i en pc q++j).set (h.length+k) c=Hp h i en pc q++j.set k c:=by rw[<-lq h i en pc q,List.set_append_right _ _ (by omega)];simp
theorem amH(h i en pc q j c):(Hp h i en pc q++j).set h.length c=Hp h i en pc q++j.set 0 c:=sZ h i en pc q j 0 c
def bX(x:Ex):Bool:=iY x&&(x.no==0)&&(!lg x||(l8 x.name&&pz x.name))
def XC(Γ:GG)(x:Ex):Prop:=∀(h:AH) (i:Nat) (en:Int) (pc:List AV) (tk m:Ts),i<h.length->mA pc->tk.map (·.1)=gd x->(tk++m).length<=1000000->
 az Tryz.prog Γ 154 [.ptr (some (i,0))] (Hp h i en pc (tk++m)) fun v h'=>h'=Hp h i en pc m/\v=aK x
theorem vb(h){i}(hi:i<h.length)(en pc l j):Hp (h++j) i en pc l=Hp h i en pc l++j:=by rw[Hp,List.set_append_left _ _ hi,Hp]
theorem XC.at{Γ x}(H:XC Γ x){h i}(hi:i<h.length)(en){pc}(hp:mA pc)(tk m j)(ht:tk.map (·.1)=gd x)(hl:(tk++m).length<=1000000):
  az Tryz.prog Γ 154 [.ptr (some (i,0))] (Hp h i en pc (tk++m)++j) fun v h'=>h'=Hp h i en pc m++j/\v=aK x:=by
 rw[<-vb h hi,<-vb h hi];exact H (h++j) i en pc tk m (by rw[List.length_append];omega) hp ht hl
theorem Ev{h i en pc}(l m)(hp:mA pc):lJ (Hp h i en pc l) (Hp h i en pc m):=by have:=J0 (h:=Hp h i en pc l) (i:=i) (en:=en) m hp;rwa [show Hp (Hp h i en pc l) i en pc m=Hp h i en pc m by simp[Hp]]at this
theorem N_(Γ x)(H:XC Γ x){h i}(hi:i<h.length)(en){pc}(hp:mA pc)(a b)(tk m:Ts)(ht:tk.map (·.1)=gd x)(hl:((bP 40,a)::(tk++(bP 41,b)::m)).length<=1000000):
  az Tryz.prog Γ 204 [.ptr (some (i,0))] (Hp h i en pc ((bP 40,a)::(tk++(bP 41,b)::m))) fun v h'=>h'=Hp h i en pc m/\v=aK x:=by
 simp only[List.length_cons,List.length_append]at hl;refine az.zh (Ev _ _ hp) ?_;refine cS [.cell 2 26] Tryz.func204 ?_;simp(disch:=omega) only[go_sem,seval,lq];refine bu (az.eT (rV Γ hi en pc [[40]] _ _ _ (by simp;omega) ⟨_,_,rfl,rfl,rfl⟩ (by decide))) ?_;have hx:=fun j=>H.at hi en hp tk ((bP 41,b)::m) j ht (by simp;omega);rw[dM]at hx|-;refine az.eT (hx _) ?_;simp(disch:=omega) only[go_sem,seval,lq,p_,sZ];refine az.eT (rV Γ hi en pc [[41]] ((bP 41,b)::m) m _ (by simp;omega) ⟨_,_,rfl,rfl,rfl⟩ (by decide)) ?_;simp(disch:=omega) only[go_sem,seval,p_,nU,amH]
theorem amI(Γ s)(hs:pz s=true):XC Γ (.mk 1 0 0 s []):=by intro h i en pc tk m hi hp ht hl;obtain⟨⟨t1,a1⟩,tk,rfl,e1,ht⟩:=List.map_eq_cons_iff.1 ht;obtain⟨⟨t2,a2⟩,tk,rfl,e2,ht⟩:=List.map_eq_cons_iff.1 ht;obtain rfl:=List.map_eq_nil_iff.1 ht;subst e1 e2;simp only[List.length_cons,List.cons_append,List.nil_append]at hl|-;refine az.zh (Ev _ _ hp) ?_;refine tO [.cell 2 26] Tryz.func154 ?_;refine eQ ?_;simp(disch:=omega) only[go_sem,seval,lq];refine fR (jZ ?_);refine eQ ?_;simp(disch:=omega) only[go_sem,seval,nU];refine bu (az.eT (N8 Γ hi en pc (bC Cz,a1) ((bC s,a2)::m) Cz _ (by simp;omega) rfl)) ?_;refine uB rfl (fun _=>gO ?_) (fun e=>by cases e);simp(disch:=omega) only[go_sem,seval,nU];refine az.eT (J1 Γ hi en pc s a2 m _ (by omega) hs) ?_;simp(disch:=omega) only[go_sem,seval,p_,sZ];rw[mu];rfl
theorem amJ(Γ n s)(hs:pz s=true):XC Γ (.mk 2 n 0 s []):=by intro h i en pc tk m hi hp ht hl;obtain⟨⟨t1,a1⟩,tk,rfl,e1,ht⟩:=List.map_eq_cons_iff.1 ht;obtain⟨⟨t2,a2⟩,tk,rfl,e2,ht⟩:=List.map_eq_cons_iff.1 ht;obtain⟨⟨t3,a3⟩,tk,rfl,e3,ht⟩:=List.map_eq_cons_iff.1 ht;obtain⟨⟨t4,a4⟩,tk,rfl,e4,ht⟩:=List.map_eq_cons_iff.1 ht;obtain rfl:=List.map_eq_nil_iff.1 ht;subst e1 e2 e3 e4;simp only[List.length_cons,List.cons_append,List.nil_append]at hl|-;refine az.zh (Ev _ _ hp) ?_;refine tO [.cell 2 26] Tryz.func154 ?_;refine eQ ?_;simp(disch:=omega) only[go_sem,seval,lq];refine fR (jZ ?_);refine eQ ?_;simp(disch:=omega) only[go_sem,seval,nU];refine bL (takeN Γ hi en pc ((bC CA,a1)::(fF n,a2)::(bC oV,a3)::(bC s,a4)::m) Cz _ (by simp;omega) rfl) ?_;refine uB rfl (fun e=>by cases e) (fun _=>?_);refine eQ ?_;simp(disch:=omega) only[go_sem,seval,nU];refine bu (az.eT (N8 Γ hi en pc (bC CA,a1) ((fF n,a2)::(bC oV,a3)::(bC s,a4)::m) CA _ (by simp;omega) rfl)) ?_;refine uB rfl (fun _=>gO ?_) (fun e=>by cases e);simp(disch:=omega) only[go_sem,seval,nU];refine az.eT (N9 Γ hi en pc n a2 ((bC oV,a3)::(bC s,a4)::m) _ (by simp;omega)) ?_;simp(disch:=omega) only[go_sem,seval,p_,nU,sZ];refine az.eT (rV Γ hi en pc [oV] ((bC oV,a3)::(bC s,a4)::m) ((bC s,a4)::m) _ (by simp;omega) ⟨_,_,rfl,rfl,rfl⟩ (by decide)) ?_;simp(disch:=omega) only[go_sem,seval,nU];refine az.eT (J1 Γ hi en pc s a4 m _ (by omega) hs) ?_;simp(disch:=omega) only[go_sem,seval,p_,sZ];refine gO ?_;simp(disch:=omega) only[go_sem,seval,p_,sZ];rw[mu];rfl
end Go.Proofs.YtmfjlankeocaoaaGreatDoor.Sx
namespace Go.Proofs.YtmfjlankeocaoaaGreatDoor.Sx
open Go Go.Proofs Go.aS
theorem aaO(Γ x)(H:XC Γ x){h i}(hi:i<h.length)(en){pc}(hp:mA pc)(a b)(tk m:Ts)(j)(ht:tk.map (·.1)=gd x)(hl:((bP 40,a)::(tk++(bP 41,b)::m)).length<=1000000):
  az Tryz.prog Γ 204 [.ptr (some (i,0))] (Hp h i en pc ((bP 40,a)::(tk++(bP 41,b)::m))++j) fun v h'=>h'=Hp h i en pc m++j/\v=aK x:=by
 rw[<-vb h hi,<-vb h hi];exact N_ Γ x H (by rw[List.length_append];omega) en hp a b tk m ht hl
theorem amK(n no)(s:Tx)(x y):gd (.mk 4 n no s [x,y])=bC sY::fF n::bP 40::(gd x++(bP 41::bC zj::bP 40::(gd y++[bP 41]))):=by simp[gd,me]
theorem amL(Γ n x y)(Hx:XC Γ x)(Hy:XC Γ y):XC Γ (.mk 4 n 0 [] [x,y]):=by
 intro h i en pc tk m hi hp ht hl;rw[amK]at ht;obtain⟨⟨t1,a1⟩,tk,rfl,e1,ht⟩:=List.map_eq_cons_iff.1 ht;obtain⟨⟨t2,a2⟩,tk,rfl,e2,ht⟩:=List.map_eq_cons_iff.1 ht;obtain⟨⟨t3,a3⟩,tk,rfl,e3,ht⟩:=List.map_eq_cons_iff.1 ht;obtain⟨mf,tk,rfl,tZ,ht⟩:=List.map_eq_append_iff.1 ht;obtain⟨⟨t4,a4⟩,tk,rfl,e4,ht⟩:=List.map_eq_cons_iff.1 ht;obtain⟨⟨t5,a5⟩,tk,rfl,e5,ht⟩:=List.map_eq_cons_iff.1 ht;obtain⟨⟨t6,a6⟩,tk,rfl,e6,ht⟩:=List.map_eq_cons_iff.1 ht;obtain⟨Oa,tk,rfl,hty,ht⟩:=List.map_eq_append_iff.1 ht;obtain⟨⟨t7,a7⟩,tk,rfl,e7,ht⟩:=List.map_eq_cons_iff.1 ht;obtain rfl:=List.map_eq_nil_iff.1 ht;subst e1 e2 e3 e4 e5 e6 e7;obtain⟨q3,vd⟩:∃q3:Ts,q3=(bP 40,a6)::(Oa++(bP 41,a7)::m):=⟨_,rfl⟩;obtain⟨q2,gq⟩:∃q2:Ts,q2=(bC zj,a5)::q3:=⟨_,rfl⟩;obtain⟨q1,rW⟩:∃q1:Ts,q1=(bP 40,a3)::(mf++(bP 41,a4)::q2):=⟨_,rfl⟩;have hq:((bC sY,a1)::(fF n,a2)::(bP 40,a3)::(mf++(bP 41,a4)::(bC zj,a5)::(bP 40,a6)::(Oa++[(bP 41,a7)]))++m:Ts)=(bC sY,a1)::(fF n,a2)::q1:=by rw[rW,gq,vd];simp
 rw[hq]at hl|-;simp only[List.length_cons]at hl;have l3:q3.length=Oa.length+m.length+2:=by rw[vd];simp;omega
 have l2:q2.length=q3.length+1:=by rw[gq];simp
 have l1:q1.length=mf.length+q2.length+2:=by rw[rW];simp;omega
 have cx:=fun j=>aaO Γ x Hx hi en hp a3 a4 mf q2 j tZ (by rw[<-rW];omega);have cy:=fun j=>aaO Γ y Hy hi en hp a6 a7 Oa m j hty (by rw[<-vd];omega);rw[<-rW]at cx;rw[<-vd]at cy;refine az.zh (Ev _ _ hp) ?_;refine tO [.cell 2 26] Tryz.func154 ?_;refine eQ ?_;simp(disch:=omega) only[go_sem,seval,lq];refine fR (jZ ?_);refine eQ ?_;simp(disch:=omega) only[go_sem,seval,nU];refine bL (takeN Γ hi en pc ((bC sY,a1)::(fF n,a2)::q1) Cz _ (by simp;omega) rfl) ?_;refine uB rfl (fun e=>by cases e) (fun _=>?_);refine eQ ?_;simp(disch:=omega) only[go_sem,seval,nU];refine bL (takeN Γ hi en pc ((bC sY,a1)::(fF n,a2)::q1) CA _ (by simp;omega) rfl) ?_;refine uB rfl (fun e=>by cases e) (fun _=>?_);refine eQ ?_;simp(disch:=omega) only[go_sem,seval,nU];refine bu (az.eT (N8 Γ hi en pc (bC sY,a1) ((fF n,a2)::q1) sY _ (by simp;omega) rfl)) ?_;refine uB rfl (fun _=>?_) (fun e=>by cases e);refine bu (bw.keep [1,2]) ?_;have rx:=fun c hc=>(pY [x] (aK x) (by simp)).2 c hc;obtain⟨Hd,lS⟩:∃Hd:List Nat->AH,Hd=fun done=>Hp h i en pc (if 3∈done then q2 else if 1∈done then q1 else(fF n,a2)::q1)++[.row [.ptr (some (i,0))] 140,if 6∈done then .row [.int .i64 4,.int .i64 n,.int .i64 0,.str ⟨#[]⟩,.sl [aK x] .full] 26 else .row [.int .i64 0,.int .i64 0,.int .i64 0,.str ⟨#[]⟩,.sl [] .full] 26]:=⟨_,rfl⟩;have eH:∀q done,q≠1->q≠3->q≠6->Hd (q::done)=Hd done:=fun q done h1 h3 h6=>by rw[lS];simp[Ne.symm h1,Ne.symm h3,Ne.symm h6]
 have eB:∀done,(Hd done)[h.length]? =some (.row [.ptr (some (i,0))] 140):=fun done=>by rw[lS];exact nU ..
 refine fR ?_;rw[show(Hp h i en pc ((fF n,a2)::q1)++[.row [.ptr (some (i,0))] 140,.row [.int .i64 0,.int .i64 0,.int .i64 0,.str ⟨#[]⟩,.sl [] .full] 26]:AH)=Hd []by rw[lS];rfl];refine Tn [[],[0],[],[2,1],[3],[1,4],[5,3,0,1,2,3,4,5]] [1,2,1000000,1000001] (fun q=>[.ptr (some (i,0)),.int .i64 n,.ptr (some (i,0)),aK x,.sl [aK x] .full,.agg [.int .i64 4,.int .i64 n,.int .i64 0,.str ⟨#[]⟩,.sl [aK x] .full],.tuple []].getD q .top) Hd Ty.mixed (by kernel_rfl) (by kernel_rfl) (by kernel_rfl) (by kernel_rfl) ?_ ?_
 .intro q op ho done σ jb dG dy hf hv C hC;have f1:lk σ 1= .ptr (some (h.length,0)):=(hf 1 (by decide)).trans rfl;have f2:lk σ 2= .ptr (some (h.length+1,0)):=(hf 2 (by decide)).trans rfl;have fm:mF σ=false:=by rw[mF,hf 1000000 (by decide)];rfl
  have fb:mB σ=false:=by rw[mB,hf 1000001 (by decide)];rfl
  rcases q with _|_|_|_|_|_|_|q;all_goals simp only[List.getElem?_toArray,List.getElem?_cons_zero,List.getElem?_cons_succ,Option.some.injEq,List.getElem?_nil,reduceCtorEq,Nat.zero_add,Nat.reduceAdd]at ho
  all_goals subst ho
  all_goals rw[AP]
  .rw[eH _ _ (by decide) (by decide) (by decide)]at hC;simp(disch:=omega) only[go_sem,seval,f1,eB];exact hC
  .have v0:lk σ 44= .ptr (some (i,0)):=hv 0 (jb 0 (by decide)) 44 rfl;have n3:3∉done:=fun e=>dy (dG 3 e 1 (by decide));have n6:6∉done:=fun e=>dy (dG 6 e 1 (by decide));rw[lS]at hC|-;simp only[n3,n6,dy,if_false,List.mem_cons,true_or,if_true,Nat.reduceEqDiff,false_or]at hC|-;simp(disch:=omega) only[go_sem,seval,v0];refine bu (az.eT (N9 Γ hi en pc n a2 q1 _ (by omega))) ?_;exact hC
  .rw[eH _ _ (by decide) (by decide) (by decide)]at hC;simp(disch:=omega) only[go_sem,seval,f1,eB];exact hC
  .have v2:lk σ 46= .ptr (some (i,0)):=hv 2 (jb 2 (by decide)) 46 rfl;have n1:1∈done:=jb 1 (by decide);have n6:6∉done:=fun e=>dy (dG 6 e 3 (by decide));rw[lS]at hC|-;simp only[n1,n6,dy,if_false,List.mem_cons,true_or,if_true,Nat.reduceEqDiff,false_or]at hC|-;simp(disch:=omega) only[go_sem,seval,v2];refine bu (az.eT (cx _)) ?_;exact hC
  .have v3:lk σ 47=aK x:=hv 3 (jb 3 (by decide)) 47 rfl;rw[eH _ _ (by decide) (by decide) (by decide)]at hC;simp(disch:=omega) only[go_sem,seval,v3,fm];exact hC
  .have v1:lk σ 45= .int .i64 n:=hv 1 (jb 1 (by decide)) 45 rfl;have v4:lk σ 48= .sl [aK x] .full:=hv 4 (jb 4 (by decide)) 48 rfl;rw[eH _ _ (by decide) (by decide) (by decide)]at hC;simp(disch:=omega) only[go_sem,seval,v1,v4];exact hC
  .have v5:lk σ 49= .agg [.int .i64 4,.int .i64 n,.int .i64 0,.str ⟨#[]⟩,.sl [aK x] .full]:=hv 5 (jb 5 (by decide)) 49 rfl;have n3:3∈done:=jb 3 (by decide);rw[lS]at hC|-;simp only[n3,dy,if_false,List.mem_cons,true_or,if_true,Nat.reduceEqDiff,false_or]at hC|-;simp(disch:=omega) only[go_sem,seval,f2,v5,p_,sZ];exact hC
 .intro done σ bT hf hv;have f1:lk σ 1= .ptr (some (h.length,0)):=(hf 1 (by decide)).trans rfl;have f2:lk σ 2= .ptr (some (h.length+1,0)):=(hf 2 (by decide)).trans rfl;have eF:Hd done=Hp h i en pc q2++[.row [.ptr (some (i,0))] 140,.row [.int .i64 4,.int .i64 n,.int .i64 0,.str ⟨#[]⟩,.sl [aK x] .full] 26]:=by rw[lS];simp only;rw[if_pos (bT 3 (by decide)),if_pos (bT 6 (by decide))]
  rw[eF];refine aU ?_;refine bw.weaken (σ':=[(1,.ptr (some (h.length,0))),(2,.ptr (some (h.length+1,0)))]) ?_ (AX σ _ ?_);rotate_left
  .intro q hq;simp only[List.mem_cons,List.not_mem_nil,or_false]at hq;rcases hq with rfl|rfl
   .exact f1
   .exact f2
  refine eQ ?_;simp(disch:=omega) only[go_sem,seval,nU];rw[gq];refine bu (az.eT (rV Γ hi en pc [zj] ((bC zj,a5)::q3) q3 _ (by simp;omega) ⟨_,_,rfl,rfl,rfl⟩ (by decide))) ?_;refine bu (bw.keep [1,2]) ?_;obtain⟨Hc,rX⟩:∃Hc:List Nat->AH,Hc=fun done=>Hp h i en pc (if 3∈done then m else q3)++ .row [.ptr (some (i,0))] 140::(if 7∈done then .row [.int .i64 4,.int .i64 n,.int .i64 0,.str ⟨#[]⟩,.sl [aK x,aK y] (.bN (h.length+2))] 26 else .row [.int .i64 4,.int .i64 n,.int .i64 0,.str ⟨#[]⟩,.sl [aK x] .full] 26)::(if 5∈done then[.bN 2]else[]):=⟨_,rfl⟩;have eH:∀q done,q≠3->q≠5->q≠7->Hc (q::done)=Hc done:=fun q done h1 h3 h6=>by rw[rX];simp[Ne.symm h1,Ne.symm h3,Ne.symm h6]
  have eB:∀done,(Hc done)[h.length]? =some (.row [.ptr (some (i,0))] 140):=fun done=>by rw[rX];exact nU ..
  rw[show(Hp h i en pc q3++[.row [.ptr (some (i,0))] 140,.row [.int .i64 4,.int .i64 n,.int .i64 0,.str ⟨#[]⟩,.sl [aK x] .full] 26]:AH)=Hc []by rw[rX];rfl];refine Tn [[],[0],[],[2],[3],[1,4,3],[0,1,2,3,4,5],[6,5,5,0,1,2,3,4,5]] [1,2,1000000,1000001] (fun q=>[.ptr (some (h.length+1,4)),.sl [aK x] .full,.ptr (some (i,0)),aK y,.sl [aK y] .full,.sl [aK x,aK y] (.bN (h.length+2)),.ptr (some (h.length+1,4)),.tuple []].getD q .top) Hc Ty.mixed (by kernel_rfl) (by kernel_rfl) (by kernel_rfl) (by kernel_rfl) ?_ ?_
  .intro q op ho done σ jb dG dy hf hv C hC;have f1:lk σ 1= .ptr (some (h.length,0)):=(hf 1 (by decide)).trans rfl;have f2:lk σ 2= .ptr (some (h.length+1,0)):=(hf 2 (by decide)).trans rfl;have fm:mF σ=false:=by rw[mF,hf 1000000 (by decide)];rfl
   have fb:mB σ=false:=by rw[mB,hf 1000001 (by decide)];rfl
   rcases q with _|_|_|_|_|_|_|_|q;all_goals simp only[List.getElem?_toArray,List.getElem?_cons_zero,List.getElem?_cons_succ,Option.some.injEq,List.getElem?_nil,reduceCtorEq,Nat.zero_add,Nat.reduceAdd]at ho
   all_goals subst ho
   all_goals rw[AP]
   .rw[eH _ _ (by decide) (by decide) (by decide)]at hC;simp(disch:=omega) only[go_sem,seval,f2];exact hC
   .have v0:lk σ 53= .ptr (some (h.length+1,4)):=hv 0 (jb 0 (by decide)) 53 rfl;have n7:7∉done:=fun e=>dy (dG 7 e 1 (by decide));rw[eH _ _ (by decide) (by decide) (by decide)]at hC;have g1:(Hc done)[h.length+1]? =some (.row [.int .i64 4,.int .i64 n,.int .i64 0,.str ⟨#[]⟩,.sl [aK x] .full] 26):=by rw[rX];simp only[n7,if_false];exact p_ ..
    simp(disch:=omega) only[go_sem,seval,v0,g1];exact hC
   .rw[eH _ _ (by decide) (by decide) (by decide)]at hC;simp(disch:=omega) only[go_sem,seval,f1,eB];exact hC
   .have v2:lk σ 55= .ptr (some (i,0)):=hv 2 (jb 2 (by decide)) 55 rfl;have n5:5∉done:=fun e=>dy (dG 5 e 3 (by decide));have n7:7∉done:=fun e=>dy (dG 7 e 3 (by decide));rw[rX]at hC|-;simp only[n5,n7,dy,if_false,List.mem_cons,true_or,if_true,Nat.reduceEqDiff,false_or]at hC|-;simp(disch:=omega) only[go_sem,seval,v2];refine bu (az.eT (cy _)) ?_;exact hC
   .have v3:lk σ 56=aK y:=hv 3 (jb 3 (by decide)) 56 rfl;rw[eH _ _ (by decide) (by decide) (by decide)]at hC;simp(disch:=omega) only[go_sem,seval,v3,fm];exact hC
   .have v1:lk σ 54= .sl [aK x] .full:=hv 1 (jb 1 (by decide)) 54 rfl;have v4:lk σ 57= .sl [aK y] .full:=hv 4 (jb 4 (by decide)) 57 rfl;have n3:3∈done:=jb 3 (by decide);have n7:7∉done:=fun e=>dy (dG 7 e 5 (by decide));rw[rX]at hC|-;simp only[n3,n7,dy,if_false,List.mem_cons,true_or,if_true,Nat.reduceEqDiff,false_or]at hC|-;simp(disch:=omega) only[go_sem,seval,v1,v4,fm,fb];refine yU (pY [x]) (pY [y]) (by simp) (by simp) ?_;simp(disch:=omega) only[go_sem,seval,lq];simpa [lq]using hC
   .rw[eH _ _ (by decide) (by decide) (by decide)]at hC;simp(disch:=omega) only[go_sem,seval,f2];exact hC
   .have v5:lk σ 58= .sl [aK x,aK y] (.bN (h.length+2)):=hv 5 (jb 5 (by decide)) 58 rfl;have v6:lk σ 59= .ptr (some (h.length+1,4)):=hv 6 (jb 6 (by decide)) 59 rfl;have n3:3∈done:=jb 3 (by decide);have n5:5∈done:=jb 5 (by decide);rw[rX]at hC|-;simp only[n3,n5,dy,if_false,List.mem_cons,true_or,if_true,Nat.reduceEqDiff,or_true]at hC|-;simp(disch:=omega) only[go_sem,seval,v5,v6,p_,sZ];exact hC
  .intro done σ bT hf hv;have f2:lk σ 2= .ptr (some (h.length+1,0)):=(hf 2 (by decide)).trans rfl;have eF:Hc done=Hp h i en pc m++[.row [.ptr (some (i,0))] 140,.row [.int .i64 4,.int .i64 n,.int .i64 0,.str ⟨#[]⟩,.sl [aK x,aK y] (.bN (h.length+2))] 26,.bN 2]:=by rw[rX];simp only;rw[if_pos (bT 3 (by decide)),if_pos (bT 7 (by decide)),if_pos (bT 5 (by decide))]
   rw[eF];refine aU ?_;refine bw.weaken (σ':=[(2,.ptr (some (h.length+1,0)))]) ?_ (AX σ _ ?_);rotate_left
   .intro q hq;simp only[List.mem_cons,List.not_mem_nil,or_false]at hq;rcases hq with rfl;exact f2
   refine gO ?_;simp(disch:=omega) only[go_sem,seval,p_,sZ];exact⟨(uM _ [x,y]).mpr trivial,by rw[mu];rfl⟩
theorem amO(l):∀tk,tk.map (·.1)=kE true l->∃ps,ps.map (·.1)=l/\tk=eS ps/\∀p∈ps,∃a Gv,p.2=(bP 44,a)::Gv/\Gv.map (·.1)=gd p.1:=by
 induction l with
 |nil=>intro tk ht;exact⟨[],rfl,by rw[kE]at ht;rw[List.map_eq_nil_iff.1 ht];rfl,fun _ h=>by cases h⟩
 |cons x r ih=>
  intro tk ht;rw[kE,if_pos rfl,List.append_assoc,List.singleton_append]at ht;obtain⟨⟨t1,a1⟩,tk,rfl,e1,ht⟩:=List.map_eq_cons_iff.1 ht;obtain⟨mf,tk,rfl,tZ,hu⟩:=List.map_eq_append_iff.1 ht;subst e1;obtain⟨ps,q1,rfl,q3⟩:=ih tk hu;refine⟨(x,(bP 44,a1)::mf)::ps,by simp[q1],by simp[eS],fun p hp=>?_⟩;grind
theorem amP(n no)(s:Tx)(x l):gd (.mk 3 n no s (x::l))=fF n::bC oV::bP 40::(gd x++(kE true l++[bP 41])):=by simp[gd,kE]
theorem amQ(Γ x)(H:XC Γ x)(b i en pc h)(hi:i<h.length)(hp:mA pc)(hb:h[b]? =some (.row [.ptr (some (i,0))] 140))(cV:b≠i)(a)(tk:Ts)(ht:tk.map (·.1)=gd x):
  Gr Γ 206 ([]++[.ptr (some (b,0))]) i en pc h aK x ((bP 44,a)::tk):=by
 intro m j hl;simp only[List.cons_append,List.length_cons,List.length_append]at hl;have qz:=(List.getElem?_eq_some_iff.1 hb).1;have gb:∀q j,(Hp h i en pc q++j)[b]? =some (.row [.ptr (some (i,0))] 140):=fun q j=>by rw[List.getElem?_append_left (by rw[lq];exact qz),Hp,List.getElem?_set_ne (Ne.symm cV)];exact hb
 have hk:lJ (Hp h i en pc ((bP 44,a)::tk++m)++j) (Hp h i en pc m++j):=by rw[<-vb h hi,<-vb h hi];exact Ev _ _ hp
 refine az.zh hk ?_;refine cS [.cell 1 26] Tryz.func206 ?_;simp only[List.nil_append,List.cons_append];simp(disch:=omega) only[go_sem,seval,gb,List.append_assoc];refine az.eT (rV Γ hi en pc [[44]] ((bP 44,a)::(tk++m)) (tk++m) _ (by simp;omega) ⟨_,_,rfl,rfl,rfl⟩ (by decide)) ?_;simp(disch:=omega) only[go_sem,seval,gb];have hx:=fun j=>H.at hi en hp tk m j ht (by simp;omega);rw[dM]at hx|-;refine az.eT (hx _) ?_;have h1:∀c,(j++[c])[j.length]? =some c:=fun c=>by simp
 have h2:∀c d,(j++[c]).set j.length d=j++[d]:=fun c d=>by simp
 simp(disch:=omega) only[go_sem,seval,lq,p_,sZ,h1,h2];exact⟨_,rfl⟩
theorem amR(Γ n x l)(Hx:XC Γ x)(Hl:∀y∈l,XC Γ y):XC Γ (.mk 3 n 0 [] (x::l)):=by
 intro h i en pc tk m hi hp ht hl;rw[amP]at ht;obtain⟨⟨t1,a1⟩,tk,rfl,e1,ht⟩:=List.map_eq_cons_iff.1 ht;obtain⟨⟨t2,a2⟩,tk,rfl,e2,ht⟩:=List.map_eq_cons_iff.1 ht;obtain⟨⟨t3,a3⟩,tk,rfl,e3,ht⟩:=List.map_eq_cons_iff.1 ht;obtain⟨mf,tk,rfl,tZ,ht⟩:=List.map_eq_append_iff.1 ht;obtain⟨tkl,tk,rfl,oJ,ht⟩:=List.map_eq_append_iff.1 ht;obtain⟨⟨t4,a4⟩,tk,rfl,e4,ht⟩:=List.map_eq_cons_iff.1 ht;obtain rfl:=List.map_eq_nil_iff.1 ht;subst e1 e2 e3 e4;obtain⟨ps,sw,rfl,Tp⟩:=amO l tkl oJ;obtain⟨q4,Gw⟩:∃q4:Ts,q4=(bP 41,a4)::m:=⟨_,rfl⟩;obtain⟨q3,vd⟩:∃q3:Ts,q3=eS ps++q4:=⟨_,rfl⟩;obtain⟨q2,gq⟩:∃q2:Ts,q2=mf++q3:=⟨_,rfl⟩;obtain⟨q1,rW⟩:∃q1:Ts,q1=(bC oV,a2)::(bP 40,a3)::q2:=⟨_,rfl⟩;have hq:((fF n,a1)::(bC oV,a2)::(bP 40,a3)::(mf++(eS ps++[(bP 41,a4)]))++m:Ts)=(fF n,a1)::q1:=by rw[rW,gq,vd,Gw];simp
 rw[hq]at hl|-;simp only[List.length_cons]at hl;have l4:q4.length=m.length+1:=by rw[Gw];simp
 have l3:q3.length=(eS ps).length+q4.length:=by rw[vd];simp
 have l2:q2.length=mf.length+q3.length:=by rw[gq];simp
 have l1:q1.length=q2.length+2:=by rw[rW];simp
 have cx:=fun j=>Hx.at hi en hp mf q3 j tZ (by rw[<-gq];omega);rw[<-gq]at cx;have hm:l.map aK=ps.map fun p=>aK p.1:=by rw[<-sw,List.map_map];rfl
 have cs:=fun(b:cO)=>amz Γ 206 [] [.ptr (some (h.length,0))] i en pc (h++[.row [.ptr (some (i,0))] 140,b]) (by simp;omega) hp [44] ps q4 (fun p o_=>by
  obtain⟨a,Gv,e1,e2⟩:=Tp p o_;rw[e1];exact amQ Γ p.1 (Hl _ (by grind)) h.length i en pc _ (by simp;omega) hp (by simp) (by omega) a Gv e2) (fun p o_=>by
  obtain⟨a,Gv,e1,e2⟩:=Tp p o_;rw[e1];rfl) (by rw[Gw];rfl) (by rw[<-vd];omega)
 rw[<-vd,<-hm]at cs;simp only[vb h hi]at cs;refine az.zh (Ev _ _ hp) ?_;refine tO [.cell 2 26] Tryz.func154 ?_;refine eQ ?_;simp(disch:=omega) only[go_sem,seval,lq];refine fR (jZ ?_);refine eQ ?_;simp(disch:=omega) only[go_sem,seval,nU];refine bL (takeN Γ hi en pc ((fF n,a1)::q1) Cz _ (by simp;omega) rfl) ?_;refine uB rfl (fun e=>by cases e) (fun _=>?_);refine eQ ?_;simp(disch:=omega) only[go_sem,seval,nU];refine bL (takeN Γ hi en pc ((fF n,a1)::q1) CA _ (by simp;omega) rfl) ?_;refine uB rfl (fun e=>by cases e) (fun _=>?_);refine eQ ?_;simp(disch:=omega) only[go_sem,seval,nU];refine bL (takeN Γ hi en pc ((fF n,a1)::q1) sY _ (by simp;omega) rfl) ?_;refine uB rfl (fun e=>by cases e) (fun _=>?_);refine bu (bw.keep [1,2]) ?_;refine eQ ?_;simp(disch:=omega) only[go_sem,seval,nU];refine az.eT (N9 Γ hi en pc n a1 q1 _ (by omega)) ?_;simp(disch:=omega) only[go_sem,seval,p_,sZ];refine eQ ?_;simp(disch:=omega) only[go_sem,seval,nU];rw[rW];refine bu (az.eT (rV Γ hi en pc [oV,[40]] ((bC oV,a2)::(bP 40,a3)::q2) q2 _ (by simp;omega) ⟨_,_,rfl,rfl,_,_,rfl,rfl,rfl⟩ (by decide))) ?_;refine eQ ?_;simp(disch:=omega) only[go_sem,seval,nU];refine az.eT (cx _) ?_;simp(disch:=omega) only[go_sem,seval,p_,sZ];refine bu (bw.keep [1,2]) ?_;obtain⟨Hc,rX⟩:∃Hc:List Nat->AH,Hc=fun done=>Hp h i en pc (if 4∈done then q4 else q3)++ .row [.ptr (some (i,0))] 140::(if 7∈done then .row [.int .i64 3,.int .i64 n,.int .i64 0,.str ⟨#[]⟩,.sl (aK x::l.map aK) (.bN (h.length+2))] 26 else .row [.int .i64 3,.int .i64 n,.int .i64 0,.str ⟨#[]⟩,.sl [aK x] .full] 26)::(if 5∈done then[.bN (l.length+1)]else[]):=⟨_,rfl⟩;have eH:∀q done,q≠4->q≠5->q≠7->Hc (q::done)=Hc done:=fun q done h1 h3 h6=>by grind
 have eB:∀done,(Hc done)[h.length]? =some (.row [.ptr (some (i,0))] 140):=fun done=>by rw[rX];exact nU ..
 refine fR ?_;rw[show(Hp h i en pc q3++[.row [.ptr (some (i,0))] 140,.row [.int .i64 3,.int .i64 n,.int .i64 0,.str ⟨#[]⟩,.sl [aK x] .full] 26]:AH)=Hc []by rw[rX];rfl];refine Tn [[],[0],[],[],[2,3],[1,4,4],[0,1,2,3,4,5],[6,5,5,0,1,2,3,4,5]] [1,2,1000000,1000001] (fun q=>[.ptr (some (h.length+1,4)),.sl [aK x] .full,.ptr (some (i,0)),.func 206 [] [.ptr (some (h.length,0))],.sl (l.map aK) .free,.sl (aK x::l.map aK) (.bN (h.length+2)),.ptr (some (h.length+1,4)),.tuple []].getD q .top) Hc Ty.mixed (by kernel_rfl) (by kernel_rfl) (by kernel_rfl) (by kernel_rfl) ?_ ?_
 .intro q op ho done σ jb dG dy hf hv C hC;have f1:lk σ 1= .ptr (some (h.length,0)):=(hf 1 (by decide)).trans rfl;have f2:lk σ 2= .ptr (some (h.length+1,0)):=(hf 2 (by decide)).trans rfl;have fm:mF σ=false:=by rw[mF,hf 1000000 (by decide)];rfl
  have fb:mB σ=false:=by rw[mB,hf 1000001 (by decide)];rfl
  rcases q with _|_|_|_|_|_|_|_|q;all_goals simp only[List.getElem?_toArray,List.getElem?_cons_zero,List.getElem?_cons_succ,Option.some.injEq,List.getElem?_nil,reduceCtorEq,Nat.zero_add,Nat.reduceAdd]at ho
  all_goals subst ho
  all_goals rw[AP]
  .rw[eH _ _ (by decide) (by decide) (by decide)]at hC;simp(disch:=omega) only[go_sem,seval,f2];exact hC
  .have v0:lk σ 13= .ptr (some (h.length+1,4)):=hv 0 (jb 0 (by decide)) 13 rfl;have n7:7∉done:=fun e=>dy (dG 7 e 1 (by decide));rw[eH _ _ (by decide) (by decide) (by decide)]at hC;have g1:(Hc done)[h.length+1]? =some (.row [.int .i64 3,.int .i64 n,.int .i64 0,.str ⟨#[]⟩,.sl [aK x] .full] 26):=by rw[rX];simp only[n7,if_false];exact p_ ..
   simp(disch:=omega) only[go_sem,seval,v0,g1];exact hC
  .rw[eH _ _ (by decide) (by decide) (by decide)]at hC;simp(disch:=omega) only[go_sem,seval,f1,eB];exact hC
  .rw[eH _ _ (by decide) (by decide) (by decide)]at hC;simp(disch:=omega) only[go_sem,seval,f1];exact hC
  .have v2:lk σ 15= .ptr (some (i,0)):=hv 2 (jb 2 (by decide)) 15 rfl;have v3:lk σ 16= .func 206 [] [.ptr (some (h.length,0))]:=hv 3 (jb 3 (by decide)) 16 rfl;have n5:5∉done:=fun e=>dy (dG 5 e 4 (by decide));have n7:7∉done:=fun e=>dy (dG 7 e 4 (by decide));rw[rX]at hC|-;simp only[n5,n7,dy,if_false,List.mem_cons,true_or,if_true,Nat.reduceEqDiff,false_or]at hC|-;simp(disch:=omega) only[go_sem,seval,v2,v3];refine bu (az.eT (cs _)) ?_;exact hC
  .have v1:lk σ 14= .sl [aK x] .full:=hv 1 (jb 1 (by decide)) 14 rfl;have v4:lk σ 17= .sl (l.map aK) .free:=hv 4 (jb 4 (by decide)) 17 rfl;have n4:4∈done:=jb 4 (by decide);have n7:7∉done:=fun e=>dy (dG 7 e 5 (by decide));rw[rX]at hC|-;simp only[n4,n7,dy,if_false,List.mem_cons,true_or,if_true,Nat.reduceEqDiff,false_or]at hC|-;simp(disch:=omega) only[go_sem,seval,v1,v4,fm,fb];have kV:=N4 ps (fun p o_=>by obtain⟨a,Gv,e1,e2⟩:=Tp p o_;rw[e1];simp);have ko:ps.length=l.length:=by rw[<-sw];simp
   refine yU (pY [x]) (pY l) (by simp;omega) (by simp;omega) ?_;simp(disch:=omega) only[go_sem,seval,lq];simpa [lq,Nat.add_comm]using hC
  .rw[eH _ _ (by decide) (by decide) (by decide)]at hC;simp(disch:=omega) only[go_sem,seval,f2];exact hC
  .have v5:lk σ 18= .sl (aK x::l.map aK) (.bN (h.length+2)):=hv 5 (jb 5 (by decide)) 18 rfl;have v6:lk σ 19= .ptr (some (h.length+1,4)):=hv 6 (jb 6 (by decide)) 19 rfl;have n3:4∈done:=jb 4 (by decide);have n5:5∈done:=jb 5 (by decide);rw[rX]at hC|-;simp only[n3,n5,dy,if_false,List.mem_cons,true_or,if_true,Nat.reduceEqDiff,or_true]at hC|-;simp(disch:=omega) only[go_sem,seval,v5,v6,p_,sZ];exact hC
 .intro done σ bT hf hv;have f1:lk σ 1= .ptr (some (h.length,0)):=(hf 1 (by decide)).trans rfl;have f2:lk σ 2= .ptr (some (h.length+1,0)):=(hf 2 (by decide)).trans rfl;have eF:Hc done=Hp h i en pc q4++[.row [.ptr (some (i,0))] 140,.row [.int .i64 3,.int .i64 n,.int .i64 0,.str ⟨#[]⟩,.sl (aK x::l.map aK) (.bN (h.length+2))] 26,.bN (l.length+1)]:=by rw[rX];simp only;rw[if_pos (bT 4 (by decide)),if_pos (bT 7 (by decide)),if_pos (bT 5 (by decide))]
  rw[eF];refine aU ?_;refine bw.weaken (σ':=[(1,.ptr (some (h.length,0))),(2,.ptr (some (h.length+1,0)))]) ?_ (AX σ _ ?_);rotate_left
  .intro q hq;simp only[List.mem_cons,List.not_mem_nil,or_false]at hq;rcases hq with rfl|rfl
   .exact f1
   .exact f2
  refine gO ?_;simp(disch:=omega) only[go_sem,seval,nU];rw[Gw];refine az.eT (rV Γ hi en pc [[41]] ((bP 41,a4)::m) m _ (by simp;omega) ⟨_,_,rfl,rfl,rfl⟩ (by decide)) ?_;simp(disch:=omega) only[go_sem,seval];refine gO ?_;simp(disch:=omega) only[go_sem,seval,p_,sZ];exact⟨(uM _ (x::l)).mpr trivial,by rw[mu];rfl⟩
theorem Tq(Γ:GG):∀x:Ex,de bX x=true->XC Γ x
 | .mk k n no s l,h=>by
  have sub:∀y∈l,XC Γ y:=fun y hy=>Tq Γ y (Gj h hy);have ht:=Gi h;rw[bX,Bool.and_eq_true,Bool.and_eq_true,beq_iff_eq,Bool.or_eq_true,Bool.not_eq_true']at ht;obtain⟨⟨h1,h2⟩,h3⟩:=ht;have h2:no=0:=h2;subst h2;have h1:(if k=1 then decide (n=0/\l.length=0)else if k=2 then decide (1<=n/\n<=4096/\l.length=0)else if k=3 then decide (s.length=0/\1<=l.length/\l.length<=16/\1<=n/\n<=l.length)else if k=4 then decide (s.length=0/\l.length=2/\0<=n/\n<=1099511627776)else false)=true:=h1;simp only[lg,Ex.k,Ex.name,Bool.and_eq_true,Bool.or_eq_false_iff,beq_eq_false_iff_ne]at h3;by_cases e:k=1
  .rw[if_pos e]at h1;subst e;have h1:=of_decide_eq_true h1;simp only[List.length_eq_zero_iff]at h1;obtain⟨rfl,rfl⟩:=h1;exact amI Γ s ((h3.resolve_left fun e=>e.1 rfl).2)
  rw[if_neg e]at h1;by_cases e:k=2
  .rw[if_pos e]at h1;subst e;have h1:=of_decide_eq_true h1;simp only[List.length_eq_zero_iff]at h1;obtain⟨-,-,rfl⟩:=h1;exact amJ Γ n s ((h3.resolve_left fun e=>e.2 rfl).2)
  rw[if_neg e]at h1;by_cases e:k=3
  .rw[if_pos e]at h1;subst e;have h1:=of_decide_eq_true h1;simp only[List.length_eq_zero_iff]at h1;obtain⟨rfl,h1,-⟩:=h1;cases l with
   |nil=>grind
   |cons x l=>exact amR Γ n x l (sub x (by simp)) fun y hy=>sub y (by simp[hy])
  rw[if_neg e]at h1;by_cases e:k=4
  .rw[if_pos e]at h1;subst e;have h1:=of_decide_eq_true h1;simp only[List.length_eq_zero_iff]at h1;obtain⟨rfl,h1,-⟩:=h1;match l,h1 with
   |[x,y],_=>exact amL Γ n x y (sub x (by simp)) (sub y (by simp))
  rw[if_neg e]at h1;cases h1
mutual
def eU:Ex->Ex
 | .mk k n _ s l=> .mk k n 0 s (OF l)
def OF:List Ex->List Ex
 |[]=>[]
 |x::r=>eU x::OF r
end
theorem CJ(l):OF l=l.map eU:=by
 induction l with
 |nil=>rfl
 |cons x r ih=>rw[OF,ih,List.map_cons]
theorem an_(l):l.length<=iJ l:=by
 induction l with
 |nil=>simp
 |cons x r ih=>
  have:1<=dT x:=by cases x;rw[dT];omega
  rw[iJ,List.length_cons];omega
theorem aoa{j:AH}{a b}(h0:j[0]? =some a)(h1:j[1]? =some b):∃T,j=a::b::T:=by
 match j,h0,h1 with
 |_::_::T,h0,h1=>grind
theorem abD{h j e:AH}{a b c d n o}(ha:∀n,a≠ .bN n)(hb:∀n,b≠ .bN n)(H:fX h (a::b::j) n o):fX h (c::d::(j++e)) n o:=by
 cases o with
 |full=>trivial
 |free=>exact H
 |bN i=>
  obtain⟨i',e1,e2⟩:=H;refine⟨i',e1,?_⟩;grind
theorem abE(Γ:GG):∀(x:Ex) (h:AH),dT x<=1000000->AC Γ 31 [aK x] h (aK (eU x))
 | .mk k n no s l,h,hs=>by
  rw[dT]at hs;have kV:=an_ l;have sub:∀y∈l,∀h,AC Γ 31 [aK y] h (aK (eU y)):=fun y hy h=>abE Γ y h (by have:=Ck hy;omega);refine az.ji ?_;rw[mu];refine cS [.cell 2 26] Tryz.func31 ?_;simp(disch:=omega) only[go_sem,seval,List.length_map];refine d_ (β:=aS.Own×AH×List Ex) l [1,2,10,11,12] (fun ae _=>[(1,.ptr (some (h.length,0))),(2,.ptr (some (h.length+1,0))),(10,.sl (l.map aK) .free),(11,.int .i64 l.length),(12,.int .i64 ae.length)]) (fun b=>h++ .row [.int .i64 k,.int .i64 n,.int .i64 0,.str ⟨⟨s⟩⟩,.sl (b.2.2.map aK) b.1] 26:: .row [.int .i64 0,.int .i64 0,.int .i64 0,.str ⟨⟨[]⟩⟩,.sl [] .full] 26::b.2.1) (fun ae _ b=>b.2.2=ae.map eU/\fX h (.dead:: .dead::b.2.1) ae.length b.1) (.full,[],[]) ?_ (by simp) ⟨rfl,trivial⟩ ?_ ?_
  .simp(disch:=omega) only[go_sem,seval,List.length_nil]
  .rintro ae x r ⟨own,j,D⟩ hd ⟨hD,ho⟩;simp only at hD ho|-;have hlen:l.length=ae.length+1+r.length:=by rw[hd];simp;omega
   have e1:(l.map aK)[ae.length]? =some (aK x):=by rw[hd];exact fZ ..
   have c:=sub x (by rw[hd];simp);have GK:D.length=ae.length:=by rw[hD];simp
   rw[dM x]at c e1;simp(disch:=omega) only[go_sem,seval];refine aJ.pos (by omega) ?_;simp(disch:=omega) only[go_sem,seval,e1];refine bu (gY.intro (fun j=>c _)) ?_;have ez:D.map aK++[aK (eU x)]=(D++[eU x]).map aK:=by simp
   refine pV (Et (abD (fun _=>by simp) (fun _=>by simp) ho) rfl (by simp[GK])) (pY D) (pY [eU x]) (by grind) (by grind) fun j' eY tY hg=>?_;have q0:=hg.2 0 _ rfl (fun _ e=>by cases e);have q1:=hg.2 1 _ rfl (fun _ e=>by cases e);obtain⟨T,rfl⟩:=aoa q0 q1;rw[ez];refine aU ?_;refine cd (eY,T,D++[eU x]) ⟨by simp[hD],?_⟩ ?_ rfl
   .have:=abD (c:= .dead) (d:= .dead) (e:=[]) (fun _=>by simp) (fun _=>by simp) tY;grind
   .simp(disch:=omega) only[go_sem,seval,List.length_append]
  .rintro⟨own,j,D⟩ ⟨hD,ho⟩;simp only at hD ho|-;subst hD;simp(disch:=omega) only[go_sem,seval];refine fE [1,2] ?_;rw[eU,mu,CJ]
def mD(r:Rl):Rl:=⟨r.kind,0,r.g_,eU r.x⟩
def km(p:iq):iq:={p with rules:=p.rules.map mD,change:=eU p.change}
def bK(h:AH)(p:iq)(R:AV):AH:=h++[.row [.str ⟨⟨p.name⟩⟩,.sl (bq p.kinds) .free,.sl (bq p.bf) .free,R,.int .i64 p.change.k,.int .i64 p.change.n,.int .i64 p.change.no,.str ⟨⟨p.change.name⟩⟩,.sl (p.change.l.map aK) .free,.int .i64 p.mode] 28,.row [.str ⟨#[]⟩,.sl [] .full,.sl [] .full,.sl [] .full,.int .i64 0,.int .i64 0,.int .i64 0,.str ⟨#[]⟩,.sl [] .full,.int .i64 0] 28]
theorem aog(Γ p h)(cV:p.rules≠[])(hl:p.rules.length<=100)(cj:∀x∈exprs p,dT x<=1000000):
  AC Γ 10 [iI p] h (iI (km p)):=by
 have cb:=fun x hx h=>abE Γ x h (cj x hx);have Df:flat (p.rules.map bY)=p.rules.flatMap oC:=by rw[flat,List.flatMap_map];rfl
 refine az.ji ?_;rw[jj];refine tO [.cell 2 28] Tryz.func10 ?_;refine bw.Ry (by decide) ?_;refine cI ?_;have hK:h++[.row [.str ⟨⟨p.name⟩⟩,.sl (bq p.kinds) .free,.sl (bq p.bf) .free,.sl (p.rules.map bY) .free,.int .i64 p.change.k,.int .i64 p.change.n,.int .i64 p.change.no,.str ⟨⟨p.change.name⟩⟩,.sl (p.change.l.map aK) .free,.int .i64 p.mode] 28,.row [.str ⟨#[]⟩,.sl [] .full,.sl [] .full,.sl [] .full,.int .i64 0,.int .i64 0,.int .i64 0,.str ⟨#[]⟩,.sl [] .full,.int .i64 0] 28]=bK h p (.sl (p.rules.map bY) .free):=rfl;refine cI ?_;rw[hK,<-List.append_nil (bK h p (.sl (p.rules.map bY) .free))];refine SO (enc:=oC) (n:=8) (by_:=96) (l:=[]) (l2:=p.rules) (j:=[]) (q:=0) zt (by decide) (.inl ⟨rfl,rfl⟩) ?_ (FX _) Df (by simp) cV (by grind) (by grind) fun v' q' j' oa _ _ _ _=>?_
 .exact rfl
 rw[List.nil_append]at oa;obtain⟨c,pad,rfl,hj,hc,TS⟩:=oa;have lQ:∀R,(bK h p R).length=h.length+2:=fun R=>by simp[bK]
 have g0:∀R l,(bK h p R++l)[h.length]? =some (.row [.str ⟨⟨p.name⟩⟩,.sl (bq p.kinds) .free,.sl (bq p.bf) .free,R,.int .i64 p.change.k,.int .i64 p.change.n,.int .i64 p.change.no,.str ⟨⟨p.change.name⟩⟩,.sl (p.change.l.map aK) .free,.int .i64 p.mode] 28):=fun R l=>by simp[bK]
 have s0:∀R R2 l,(bK h p R++l).set h.length (.row [.str ⟨⟨p.name⟩⟩,.sl (bq p.kinds) .free,.sl (bq p.bf) .free,R2,.int .i64 p.change.k,.int .i64 p.change.n,.int .i64 p.change.no,.str ⟨⟨p.change.name⟩⟩,.sl (p.change.l.map aK) .free,.int .i64 p.mode] 28)=bK h p R2++l:=fun R R2 l=>by simp[bK]
 rw[lQ];simp(disch:=omega) only[go_sem,seval,g0,s0];have BM:q'<j'.length:=(List.getElem?_eq_some_iff.1 hj).1;have gj:∀o,(bK h p (.ms (h.length+2+q') 0 p.rules.length c 8)++j'.set q' o)[h.length+2+q']? =some o:=fun o=>by grind
 have sj0:∀R o o2,(bK h p R++j'.set q' o).set (h.length+2+q') o2=bK h p R++j'.set q' o2:=fun R o o2=>by simp_all
 have sj:=sj0 (.ms (h.length+2+q') 0 p.rules.length c 8);refine eQ ?_;simp(disch:=omega) only[go_sem,seval,g0];have ej:j'=j'.set q' (.row (cR oC p.rules pad) 64):=(ph hj).symm;have e1c:∀(b:List Rl) (k:Nat) (x:Rl),b[k]? =some x->List.take (0+k*8+1) (cR oC b pad)++[.int .i64 0]++List.drop (0+k*8+1+1) (cR oC b pad)=cR oC (b.set k {x with lK:=0}) pad:=fun b k x hb=>by have hk:=(List.getElem?_eq_some_iff.1 hb).1;have h1:=NM zt hb pad;have h2:=Z1 zt hk ({x with lK:=0}:Rl) pad;rw[<-h2,show 0+k*8+1=k*8+1 by omega,List.take_add,h1,show k*8+1+1=k*8+2 by omega,<-List.drop_drop (i:=2) (j:=k*8),h1,<-List.drop_drop (i:=8) (j:=k*8),h1,GL x,GL {x with lK:=0}];simp
 have e1d:∀(b:List Rl) (k:Nat) (x:Rl),b[k]? =some x->(cR oC b pad).set (0+k*8+1) (.int .i64 0)=cR oC (b.set k {x with lK:=0}) pad:=fun b k x hb=>by have hk:=(List.getElem?_eq_some_iff.1 hb).1;rw[<-e1c b k x hb,List.set_eq_take_append_cons_drop,if_pos (by rw[Gl zt];omega)];simp
 have e5c:∀(b:List Rl) (k:Nat) (x:Rl) (y:Ex),b[k]? =some x->List.take (0+k*8+3) (cR oC b pad)++[.int .i64 y.k,.int .i64 y.n,.int .i64 y.no,.str ⟨⟨y.name⟩⟩,.sl (y.l.map aK) .free]++List.drop (0+k*8+3+5) (cR oC b pad)=cR oC (b.set k {x with x:=y}) pad:=fun b k x y hb=>by have hk:=(List.getElem?_eq_some_iff.1 hb).1;have h1:=NM zt hb pad;have h2:=Z1 zt hk ({x with x:=y}:Rl) pad;rw[<-h2,show 0+k*8+3=k*8+3 by omega,List.take_add,h1,GL x,GL {x with x:=y}];simp
 have Fi:∀(b:List Rl) (k:Nat) (x:Rl),b[k]? =some x->∃z,(cR oC b pad).drop (0+k*8+3)= .int .i64 x.x.k:: .int .i64 x.x.n:: .int .i64 x.x.no:: .str ⟨⟨x.x.name⟩⟩:: .sl (x.x.l.map aK) .free::z:=fun b k x hb=>by have h1:=NM zt hb pad;rw[show 0+k*8+3=k*8+3 by omega,<-List.drop_drop (i:=3) (j:=k*8),h1,GL x];exact⟨_,rfl⟩
 refine y2 (β:=List Rl) p.rules [1,2,10,11,12] (fun ae _=>[(1,.ptr (some (h.length,0))),(2,.ptr (some (h.length+1,0))),(10,.ms (h.length+2+q') 0 p.rules.length c 8),(11,.int .i64 p.rules.length),(12,.int .i64 ae.length)]) (fun b=>bK h p (.ms (h.length+2+q') 0 p.rules.length c 8)++j'.set q' (.row (cR oC b pad) 64)) (fun ae r b=>b=ae.map mD++r) p.rules ?_ (by rw[<-ej]) rfl (fun ae x r b hd hb=>?_) (fun b hb=>?_)
 .simp(disch:=omega) only[go_sem,seval,List.length_nil]
 .have hlen:p.rules.length=ae.length+1+r.length:=by rw[hd];simp;omega
  have qz:b.length=p.rules.length:=by rw[hb];simp;omega
  have Gb:b[ae.length]? =some x:=by rw[hb,List.getElem?_append_right (by simp)];simp
  refine cI ?_;refine cI ?_;refine bu (aJ.pos (by omega)) ?_;refine fR (jZ ?_);refine cI ?_;refine eQ ?_;simp(disch:=omega) only[go_sem,seval,g0];simp(disch:=omega) only[go_sem,seval,gj];refine⟨by omega,by rw[Gl zt];omega,?_⟩;rw[e1d b _ x Gb,sj];have jH:(b.set ae.length {x with lK:=0})[ae.length]? =some {x with lK:=0}:=List.getElem?_set_self (by omega);obtain⟨z,hz⟩:=Fi _ _ _ jH;have TU:x.x∈exprs p:=List.mem_append_left _ (List.mem_map_of_mem (by rw[hd];simp));have c1:=cb x.x TU;rw[dM,dM]at c1;refine gO ?_;simp(disch:=omega) only[go_sem,seval,g0,gj,hz];refine⟨by omega,gY.intro (fun j=>c1 _) ?_⟩;simp(disch:=omega) only[go_sem,seval,gj];refine⟨by omega,by rw[Gl zt,List.length_set];omega,?_⟩;rw[e5c _ _ _ (eU x.x) jH,sj,List.set_set];refine gR ?_;refine cd (b.set ae.length (mD x)) ?_ ?_ rfl
  .rw[hb,List.set_append_right _ _ (by simp)];simp
  .simp(disch:=omega) only[go_sem,seval,List.length_append]
 .rw[List.append_nil]at hb;subst hb;refine cI ?_;refine cI ?_;refine bu (bw.keep [1,2]) ?_;have hHi:=gj (.row (cR oC (p.rules.map mD) pad) 64);have lU:=g0 (.ms (h.length+2+q') 0 p.rules.length c 8) (j'.set q' (.row (cR oC (p.rules.map mD) pad) 64));refine bw.freeze hHi (jM.row (jM.set hHi) (j:=h.length) (by omega) lU) ?_;have uo:dd (h.length+2+q') (cR oC (p.rules.map mD) pad) (.ms (h.length+2+q') 0 p.rules.length c 8)= .sl ((p.rules.map mD).map bY) .free:=by
   have hlen:p.rules.length=(p.rules.map mD).length:=by simp
   rw[hlen,alx zt (by decide) (by decide) (by omega) TS (fun r a ha=>by rw[GL]at ha;simp only[List.mem_cons,List.not_mem_nil,or_false]at ha;rcases ha with rfl|rfl|rfl|rfl|rfl|rfl|rfl|rfl<;>rfl)]
   congr 1
  have gw:fB (h.length+2+q') (cR oC (p.rules.map mD) pad) [.str ⟨⟨p.name⟩⟩,.sl (bq p.kinds) .free,.sl (bq p.bf) .free,.ms (h.length+2+q') 0 p.rules.length c 8,.int .i64 p.change.k,.int .i64 p.change.n,.int .i64 p.change.no,.str ⟨⟨p.change.name⟩⟩,.sl (p.change.l.map aK) .free,.int .i64 p.mode]=[.str ⟨⟨p.name⟩⟩,.sl (bq p.kinds) .free,.sl (bq p.bf) .free,.sl ((p.rules.map mD).map bY) .free,.int .i64 p.change.k,.int .i64 p.change.n,.int .i64 p.change.no,.str ⟨⟨p.change.name⟩⟩,.sl (p.change.l.map aK) .free,.int .i64 p.mode]:=by rw[fB,fB,fB,fB,uo];simp only[fB,dd,aof,aoe]
  rw[gw];simp only[List.map_cons,List.map_nil];rw[wo (by omega),wo (by omega)];have hHe:((bK h p (.ms (h.length+2+q') 0 p.rules.length c 8)++j'.set q' (.row (cR oC (p.rules.map mD) pad) 64)).set (h.length+2+q') .frozen).set h.length (.row [.str ⟨⟨p.name⟩⟩,.sl (bq p.kinds) .free,.sl (bq p.bf) .free,.sl ((p.rules.map mD).map bY) .free,.int .i64 p.change.k,.int .i64 p.change.n,.int .i64 p.change.no,.str ⟨⟨p.change.name⟩⟩,.sl (p.change.l.map aK) .free,.int .i64 p.mode] 28)=bK h p (.sl ((p.rules.map mD).map bY) .free)++j'.set q' .frozen:=by rw[sj,s0]
  rw[hHe];have c2:=cb p.change (by simp[exprs]);rw[dM,dM]at c2;refine gO ?_;rw[bK,List.append_assoc];simp only[List.cons_append,List.nil_append];refine aU ?_;refine bL (c2 _) ?_;rw[jj (km p)];rfl
end Go.Proofs.YtmfjlankeocaoaaGreatDoor.Sx
namespace Go.Proofs.YtmfjlankeocaoaaGreatDoor.Sx
open Go Go.Proofs Go.aS Go.RowKit
def Gx:Array Value:= #[.string ⟨#[]⟩,.string ⟨#[111,108,100]⟩,.string ⟨#[110,101,119]⟩,.string ⟨#[98,111,116,104]⟩,.string ⟨#[101,105,116,104,101,114]⟩]
theorem amU(w):
  Calls Tryz.prog 76 #[] w fun e w'=>e= .returned (.slice (some ⟨w.heap.size,0,none⟩) 5 5)/\w'=w.alloc (.cells Gx 9):=by
 go_enter Tryz.func76,Tryz.ntmps76
 go_wp2
 go_ret
 exact⟨rfl,rfl⟩
theorem aaR(Γ h):AC Γ 76 [] h (.sl (bq kW) .free):=by
 refine⟨fun vs w=>xb Tryz.func76 rfl rfl vs w,fun G w vs hI hv=>?_⟩;obtain rfl:vs= #[]:=Array.eq_empty_of_size_eq_zero hv.1.symm;refine(amU w).mono fun e w' he=>?_;obtain⟨rfl,rfl⟩:=he;have key:=VR.HX (G:=G.fixed w.heap.size Gx) (rows:=bq kW) (own:= .free) (b:=w.heap.size) (o:=0) (cap:=5) (n:=1) (vals:=fun q=>Gx.getD q undef)
  (fun r hr=>by obtain⟨x,-,rfl⟩:=List.mem_map.1 hr;rfl) (by decide)
  (fun q hq=>by
   have hq:q<5:=hq;simp only[Gh.fixed,if_true,Nat.zero_add];match q,hq with
   |0,_|1,_|2,_|3,_|4,_=>rfl)
  (fun q c e=>by
   match q,e with
   |0,e|1,e|2,e|3,e|4,e=>cases e;exact .str _) trivial
 exact⟨_,G.fixed w.heap.size Gx,_,h,rfl,hI.LQ Gx,hI.P7 Gx _,key,rfl,rfl⟩
end Go.Proofs.YtmfjlankeocaoaaGreatDoor.Sx
namespace Go.Proofs.YtmfjlankeocaoaaGreatDoor.Sx
open Go Go.Proofs Go.aS
theorem Od(h i en pc q)(j:AH)(c):(Hp h i en pc q++(j++[c]))[h.length+j.length]? =some c:=by rw[p_];simp
theorem Oe(h i en pc q j)(c d:cO):(Hp h i en pc q++(j++[c])).set (h.length+j.length) d=Hp h i en pc q++(j++[d]):=by rw[sZ];simp
theorem Ey(r):oA r=bC zi::bC r.kind::bC wi::fF r.g_::bP 61::(gd r.x++[bP 59]):=by simp[oA]
theorem amV(Γ r)(hk:pz r.kind=true)(hx:de bX r.x=true)(h0:r.lK=0)(i en pc h)(hi:i<h.length)(hp:mA pc)(tk)(ht:tk.map (·.1)=oA r):
  Gr Γ 153 ([.ptr (some (i,0))]++[]) i en pc h bY r tk:=by
 intro m j hl;rw[Ey]at ht;obtain⟨⟨t1,a1⟩,tk,rfl,e1,ht⟩:=List.map_eq_cons_iff.1 ht;obtain⟨⟨t2,a2⟩,tk,rfl,e2,ht⟩:=List.map_eq_cons_iff.1 ht;obtain⟨⟨t3,a3⟩,tk,rfl,e3,ht⟩:=List.map_eq_cons_iff.1 ht;obtain⟨⟨t4,a4⟩,tk,rfl,e4,ht⟩:=List.map_eq_cons_iff.1 ht;obtain⟨⟨t5,a5⟩,tk,rfl,e5,ht⟩:=List.map_eq_cons_iff.1 ht;obtain⟨mf,tk,rfl,tZ,ht⟩:=List.map_eq_append_iff.1 ht;obtain⟨⟨t6,a6⟩,tk,rfl,e6,ht⟩:=List.map_eq_cons_iff.1 ht;obtain rfl:=List.map_eq_nil_iff.1 ht;subst e1 e2 e3 e4 e5 e6;obtain⟨q5,Of⟩:∃q5:Ts,q5=mf++(bP 59,a6)::m:=⟨_,rfl⟩;have hq:((bC zi,a1)::(bC r.kind,a2)::(bC wi,a3)::(fF r.g_,a4)::(bP 61,a5)::(mf++[(bP 59,a6)])++m:Ts)=(bC zi,a1)::(bC r.kind,a2)::(bC wi,a3)::(fF r.g_,a4)::(bP 61,a5)::q5:=by rw[Of];simp
 rw[hq]at hl|-;simp only[List.length_cons]at hl;have l5:q5.length=mf.length+(m.length+1):=by rw[Of];simp
 have cx:=fun j=>(Tq Γ r.x hx).at hi en hp mf ((bP 59,a6)::m) j tZ (by rw[<-Of];omega);rw[<-Of,dM]at cx;have hk2:∀q:Ts,lJ (Hp h i en pc q++j) (Hp h i en pc m++j):=fun q=>by rw[<-vb h hi,<-vb h hi];exact Ev _ _ hp
 refine az.zh (hk2 _) ?_;refine cS [.cell 2 64] Tryz.func153 ?_;simp only[List.append_nil];simp(disch:=omega) only[go_sem,seval,lq,List.append_assoc];refine bu (az.eT (rV Γ hi en pc [zi] ((bC zi,a1)::(bC r.kind,a2)::(bC wi,a3)::(fF r.g_,a4)::(bP 61,a5)::q5) ((bC r.kind,a2)::(bC wi,a3)::(fF r.g_,a4)::(bP 61,a5)::q5) _ (by simp;omega) ⟨_,_,rfl,rfl,rfl⟩ (by decide))) ?_;refine az.eT (J1 Γ hi en pc r.kind a2 ((bC wi,a3)::(fF r.g_,a4)::(bP 61,a5)::q5) _ (by simp;omega) hk) ?_;simp(disch:=omega) only[go_sem,seval,Od,Oe];refine bu (az.eT (rV Γ hi en pc [wi] ((bC wi,a3)::(fF r.g_,a4)::(bP 61,a5)::q5) ((fF r.g_,a4)::(bP 61,a5)::q5) _ (by simp;omega) ⟨_,_,rfl,rfl,rfl⟩ (by decide))) ?_;refine az.eT (N9 Γ hi en pc r.g_ a4 ((bP 61,a5)::q5) _ (by simp;omega)) ?_;simp(disch:=omega) only[go_sem,seval,Od,Oe];refine bu (az.eT (rV Γ hi en pc [[61]] ((bP 61,a5)::q5) q5 _ (by simp;omega) ⟨_,_,rfl,rfl,rfl⟩ (by decide))) ?_;refine az.eT (cx _) ?_;simp(disch:=omega) only[go_sem,seval,Od,Oe];refine az.eT (rV Γ hi en pc [[59]] ((bP 59,a6)::m) m _ (by simp;omega) ⟨_,_,rfl,rfl,rfl⟩ (by decide)) ?_;simp(disch:=omega) only[go_sem,seval,Od,Oe];exact⟨⟨_,rfl⟩,by rw[DU,h0]⟩
theorem amW(Γ)(w s:Tx)(hs:pz s=true)(b c i en pc h)(hi:i<h.length)(hp:mA pc)(hb:h[b]? =some (.row [.ptr (some (i,0))] 140))(cV:b≠i)(hc:h[c]? =some (.row [.str ⟨⟨w⟩⟩] 9))(amX:c≠i)(a1 a2 a3):
  Gr Γ 202 ([]++[.ptr (some (b,0)),.ptr (some (c,0))]) i en pc h encS s [(bC w,a1),(bC s,a2),(bP 59,a3)]:=by
 intro m j hl;simp only[List.cons_append,List.length_cons,List.nil_append]at hl|-;have gb:∀q j,(Hp h i en pc q++j)[b]? =some (.row [.ptr (some (i,0))] 140):=fun q j=>by rw[List.getElem?_append_left (by rw[lq];grind),Hp,List.getElem?_set_ne (Ne.symm cV)];exact hb
 have gc:∀q j,(Hp h i en pc q++j)[c]? =some (.row [.str ⟨⟨w⟩⟩] 9):=fun q j=>by rw[List.getElem?_append_left (by rw[lq];grind),Hp,List.getElem?_set_ne (Ne.symm amX)];exact hc
 refine cS [.tmp 2] Tryz.func202 ?_;simp(disch:=omega) only[go_sem,seval,gb,gc];refine az.eT (rV Γ hi en pc [w] ((bC w,a1)::(bC s,a2)::(bP 59,a3)::m) ((bC s,a2)::(bP 59,a3)::m) _ (by simp;omega) ⟨_,_,rfl,by simp[ln,bC],rfl⟩ (by simp)) ?_;simp(disch:=omega) only[go_sem,seval,gb];refine az.eT (J1 Γ hi en pc s a2 ((bP 59,a3)::m) _ (by simp;omega) hs) ?_;simp(disch:=omega) only[go_sem,seval,gb];refine bu (az.eT (rV Γ hi en pc [[59]] ((bP 59,a3)::m) m _ (by simp;omega) ⟨_,_,rfl,rfl,rfl⟩ (by decide))) ?_;rfl
def zk(nm:Tx)(ks os rs x1 x2 x3 x4 x5:AV)(mode:Int):List AV:=[.str ⟨⟨nm⟩⟩,ks,os,rs,x1,x2,x3,x4,x5,.int .i64 mode]
def oW:AV:= .sl [] .full
def wj:List AV:=zk [] oW oW oW (.int .i64 0) (.int .i64 0) (.int .i64 0) (.str ⟨⟨[]⟩⟩) oW 0
def rY(p:iq):List AV:=zk p.name oW oW oW (.int .i64 0) (.int .i64 0) (.int .i64 0) (.str ⟨⟨[]⟩⟩) oW p.mode
def ve(p:iq):List AV:=zk p.name (.sl (bq p.kinds) .free) (.sl (bq p.bf) .free) oW (.int .i64 0) (.int .i64 0) (.int .i64 0) (.str ⟨⟨[]⟩⟩) oW p.mode
def Ez(p:iq):List AV:=zk p.name oW (.sl (bq p.bf) .free) oW (.int .i64 0) (.int .i64 0) (.int .i64 0) (.str ⟨⟨[]⟩⟩) oW p.mode
theorem qJ(n):RB n oW:= .Xb (fun _ h=>by cases h)
theorem aaT{nm ks os rs x1 x2 x3 x4 x5 mode}(h1:∀n,RB n ks)(h2:∀n,RB n os)(h3:∀n,RB n rs)(h4:∀n,RB n x1)(h5:∀n,RB n x2)(h6:∀n,RB n x3)(h7:∀n,RB n x4)(h8:∀n,RB n x5):mA (zk nm ks os rs x1 x2 x3 x4 x5 mode):=fun n=>
 bB.cons (.str _) (bB.cons (h1 n) (bB.cons (h2 n) (bB.cons (h3 n) (bB.cons (h4 n) (bB.cons (h5 n) (bB.cons (h6 n) (bB.cons (h7 n) (bB.cons (h8 n) (bB.cons (.int _ _) (bB.nil n))))))))))
theorem CB{nm ks os rs mode}(h1:∀n,RB n ks)(h2:∀n,RB n os)(h3:∀n,RB n rs):mA (zk nm ks os rs (.int .i64 0) (.int .i64 0) (.int .i64 0) (.str ⟨⟨[]⟩⟩) oW mode):=
 aaT h1 h2 h3 (fun _=> .int _ _) (fun _=> .int _ _) (fun _=> .int _ _) (fun _=> .str _) qJ
theorem Gy(h i en pc EA q q' j)(hi:i<h.length):(Hp h i en pc q++j).set i (.row (nu q' en EA) 142)=Hp h i en EA q'++j:=by rw[List.set_append_left _ _ (by rw[lq];exact hi),Hp,List.set_set,Hp]
theorem decls(w l):∀tk,tk.map (·.1)=j9 w l->∃ps,ps.map (·.1)=l/\tk=eS ps/\∀p∈ps,∃a1 a2 a3,p.2=[(bC w,a1),(bC p.1,a2),(bP 59,a3)]:=by
 induction l with
 |nil=>intro tk ht;exact⟨[],rfl,List.map_eq_nil_iff.1 ht,fun _ h=>by cases h⟩
 |cons s r ih=>
  intro tk ht;rw[j9,List.flatMap_cons]at ht;obtain⟨⟨t1,a1⟩,tk,rfl,e1,ht⟩:=List.map_eq_cons_iff.1 ht;obtain⟨⟨t2,a2⟩,tk,rfl,e2,ht⟩:=List.map_eq_cons_iff.1 ht;obtain⟨⟨t3,a3⟩,tk,rfl,e3,hu⟩:=List.map_eq_cons_iff.1 ht;subst e1 e2 e3;obtain⟨ps,q1,rfl,q3⟩:=ih tk hu;refine⟨(s,[(bC w,a1),(bC s,a2),(bP 59,a3)])::ps,by simp[q1],by simp[eS],fun p hp=>?_⟩;grind
theorem amY{h i en pc EA}(l m)(hp:mA EA):lJ (Hp h i en pc l) (Hp h i en EA m):=by have:=J0 (h:=Hp h i en pc l) (i:=i) (en:=en) m hp;rwa [show Hp (Hp h i en pc l) i en EA m=Hp h i en EA m by simp[Hp]]at this
theorem aaU(Γ i)(w:Tx)(H):
  az Tryz.prog Γ 151 [.ptr (some (i,0)),.str ⟨⟨w⟩⟩] H fun v h'=>h'=H++[.row [.ptr (some (i,0))] 140,.row [.str ⟨⟨w⟩⟩] 9]/\v= .func 202 [] [.ptr (some (H.length,0)),.ptr (some (H.length+1,0))]:=by
 exact xB [.tmp 4] Tryz.func151
theorem aaV(Γ w)(ps:List (Tx×Ts))(hs:∀p∈ps,pz p.1=true)(sw:∀p∈ps,∃a1 a2 a3,p.2=[(bC w,a1),(bC p.1,a2),(bP 59,a3)])(i en pc h)(hi:i<h.length)(hp:mA pc)(m)(hm:ln m w=false)(hl:(eS ps++m).length<=1000000):
  az Tryz.prog Γ 150 [.ptr (some (i,0)),.str ⟨⟨w⟩⟩,.func 202 [] [.ptr (some (h.length,0)),.ptr (some (h.length+1,0))]] (Hp h i en pc (eS ps++m)++[.row [.ptr (some (i,0))] 140,.row [.str ⟨⟨w⟩⟩] 9]) fun v h'=>h'=Hp h i en pc m++[.row [.ptr (some (i,0))] 140,.row [.str ⟨⟨w⟩⟩] 9]/\v= .sl (bq (ps.map (·.1))) .free:=by
 have key:=amA Γ 202 [] [.ptr (some (h.length,0)),.ptr (some (h.length+1,0))] i en pc (h++[.row [.ptr (some (i,0))] 140,.row [.str ⟨⟨w⟩⟩] 9]) (by simp;omega) hp w ps m (fun p o_=>by
  obtain⟨a1,a2,a3,e⟩:=sw p o_;rw[e];exact amW Γ w p.1 (hs p o_) h.length (h.length+1) i en pc _ (by simp;omega) hp (by simp) (by omega) (by simp) (by omega) a1 a2 a3) (fun p o_=>by
  obtain⟨a1,a2,a3,e⟩:=sw p o_;rw[e];simp[ln,bC]) hm hl
 rw[vb h hi,vb h hi]at key;rw[bq,List.map_map];exact key
theorem amZ(Γ)(p:iq)(ho:∀s∈p.bf,pz s=true)(hk:∀s∈p.kinds,pz s=true)(h i en)(hi:i<h.length)(EB AY m)(J3:EB.map (·.1)=j9 pA p.bf)(CC:AY.map (·.1)=j9 qG p.kinds)
  (yL:ln m qG=false)(vS:ln (AY++m) pA=false)(hl:(EB++(AY++m)).length<=1000000):
  az Tryz.prog Γ 82 [.ptr (some (i,0))] (Hp h i en (rY p) (EB++(AY++m))) fun v h'=>h'=Hp h i en (ve p) m/\v= .tuple []:=by
 obtain⟨po,Tr,rfl,Oj⟩:=decls _ _ _ J3;obtain⟨pk,Gf,rfl,Ol⟩:=decls _ _ _ CC;have AZ:mA (rY p):=CB qJ qJ qJ;have vG:mA (Ez p):=CB qJ (fun n=>(DV n _).mpr trivial) qJ;have uJ:mA (ve p):=CB (fun n=>(DV n _).mpr trivial) (fun n=>(DV n _).mpr trivial) qJ;have s1:=aaV Γ pA po (fun q hq=>ho _ (by grind)) Oj i en (rY p) h hi AZ (eS pk++m) vS hl;rw[Tr]at s1;simp only[List.length_append]at hl;have s2:=aaV Γ qG pk (fun q hq=>hk _ (by grind)) Ol i en (Ez p) (h++[.row [.ptr (some (i,0))] 140,.row [.str ⟨⟨pA⟩⟩] 9]) (by simp;omega) vG m yL (by simp;omega);rw[Gf,vb h hi,vb h hi]at s2;have g1:∀j,(Hp h i en (rY p) (eS pk++m)++j)[i]? =some (.row [.sl (eR (eS pk++m)) .free,.int .i64 en,.str ⟨⟨p.name⟩⟩,.sl [] .full,.sl [] .full,.sl [] .full,.int .i64 0,.int .i64 0,.int .i64 0,.str ⟨⟨[]⟩⟩,.sl [] .full,.int .i64 p.mode] 142):=fun j=>p9 hi ..;have g2:∀j,(Hp h i en (Ez p) m++j)[i]? =some (.row [.sl (eR (m)) .free,.int .i64 en,.str ⟨⟨p.name⟩⟩,.sl [] .full,.sl (bq p.bf) .free,.sl [] .full,.int .i64 0,.int .i64 0,.int .i64 0,.str ⟨⟨[]⟩⟩,.sl [] .full,.int .i64 p.mode] 142):=fun j=>p9 hi ..;have g3:∀j,(Hp h i en (rY p) (eS pk++m)++j).set i (.row [.sl (eR (eS pk++m)) .free,.int .i64 en,.str ⟨⟨p.name⟩⟩,.sl [] .full,.sl (bq p.bf) .free,.sl [] .full,.int .i64 0,.int .i64 0,.int .i64 0,.str ⟨⟨[]⟩⟩,.sl [] .full,.int .i64 p.mode] 142)=Hp h i en (Ez p) (eS pk++m)++j:=fun j=>Gy h i en (rY p) (Ez p) _ _ j hi;have g4:∀j,(Hp h i en (Ez p) m++j).set i (.row [.sl (eR (m)) .free,.int .i64 en,.str ⟨⟨p.name⟩⟩,.sl (bq p.kinds) .free,.sl (bq p.bf) .free,.sl [] .full,.int .i64 0,.int .i64 0,.int .i64 0,.str ⟨⟨[]⟩⟩,.sl [] .full,.int .i64 p.mode] 142)=Hp h i en (ve p) m++j:=fun j=>Gy h i en (Ez p) (ve p) _ _ j hi;refine az.MX (amY _ _ uJ) ?_;refine cY [] Tryz.func82 ?_;refine az.eT (aaU Γ i pA _) ?_;simp(disch:=omega) only[go_sem,seval,lq];refine az.eT s1 ?_;simp(disch:=omega) only[go_sem,seval,g1,g3];refine az.eT (aaU Γ i qG _) ?_;simp only[List.append_assoc,List.cons_append,List.nil_append,List.length_append,List.length_cons,List.length_nil,Nat.zero_add,Nat.add_assoc,Nat.reduceAdd]at s2;simp(disch:=omega) only[go_sem,seval,lq];refine az.eT s2 ?_;simp(disch:=omega) only[go_sem,seval,g2,g4]
theorem am0(l):∀tk,tk.map (·.1)=l.flatMap oA->∃ps,ps.map (·.1)=l/\tk=eS ps/\∀p∈ps,p.2.map (·.1)=oA p.1:=by
 induction l with
 |nil=>intro tk ht;exact⟨[],rfl,List.map_eq_nil_iff.1 ht,fun _ h=>by cases h⟩
 |cons s r ih=>
  intro tk ht;rw[List.flatMap_cons]at ht;obtain⟨tks,tk,rfl,rB,ht⟩:=List.map_eq_append_iff.1 ht;obtain⟨ps,q1,rfl,q3⟩:=ih tk ht;refine⟨(s,tks)::ps,by simp[q1],by simp[eS],fun p hp=>?_⟩;grind
def bR(r:Rl):Bool:=pz r.kind&&de bX r.x&&(r.lK==0)
def CD(p:iq):List AV:=zk p.name (.sl (bq p.kinds) .free) (.sl (bq p.bf) .free) (.sl (p.rules.map bY) .free) (.int .i64 0) (.int .i64 0) (.int .i64 0) (.str ⟨⟨[]⟩⟩) oW p.mode
def ED(p:iq):List AV:=zk p.name (.sl (bq p.kinds) .free) (.sl (bq p.bf) .free) (.sl (p.rules.map bY) .free) (.int .i64 p.change.k) (.int .i64 p.change.n) (.int .i64 p.change.no) (.str ⟨⟨p.change.name⟩⟩) (.sl (p.change.l.map aK) .free) p.mode
theorem am2(Γ p)(hr:∀r∈p.rules,bR r=true)(hx:de bX p.change=true)(h i en)(hi:i<h.length)(GA mf:Ts)(a1 a2 a3:Int)(EE:GA.map (·.1)=p.rules.flatMap oA)(tZ:mf.map (·.1)=gd p.change)
  (hl:(GA++(bC u_,a1)::(bP 61,a2)::(mf++[(bP 59,a3)])).length<=1000000):
  az Tryz.prog Γ 83 [.ptr (some (i,0))] (Hp h i en (ve p) (GA++(bC u_,a1)::(bP 61,a2)::(mf++[(bP 59,a3)]))) fun v h'=>h'=Hp h i en (ED p) []/\v= .tuple []:=by
 obtain⟨ps,Tr,rfl,Oj⟩:=am0 _ _ EE;have rt:∀n,RB n (.sl (bq p.kinds) .free):=fun n=>(DV n _).mpr trivial;have ro:∀n,RB n (.sl (bq p.bf) .free):=fun n=>(DV n _).mpr trivial;have rr:∀n,RB n (.sl (p.rules.map bY) .free):=fun n=>(RA n _).mpr trivial;have uJ:mA (ve p):=CB rt ro qJ;have Dg:mA (CD p):=CB rt ro rr;have On:mA (ED p):=aaT rt ro rr (fun _=> .int _ _) (fun _=> .int _ _) (fun _=> .int _ _) (fun _=> .str _) (fun n=>(uM n _).mpr trivial);obtain⟨q2,gq⟩:∃q2:Ts,q2=mf++[(bP 59,a3)]:=⟨_,rfl⟩;obtain⟨q1,rW⟩:∃q1:Ts,q1=(bC u_,a1)::(bP 61,a2)::q2:=⟨_,rfl⟩;rw[<-gq,<-rW]at hl|-;have l2:q2.length=mf.length+1:=by rw[gq];simp
 have l1:q1.length=q2.length+2:=by rw[rW];simp
 have s1:=amB Γ 153 [.ptr (some (i,0))] [] i en (ve p) h hi uJ zi ps q1 (fun q hq=>by
  have hb:=hr q.1 (by grind);rw[bR,Bool.and_eq_true,Bool.and_eq_true,beq_iff_eq]at hb;exact amV Γ q.1 hb.1.1 hb.1.2 hb.2 i en (ve p) h hi uJ q.2 (Oj q hq)) (fun q hq=>by
  have e:=Oj q hq;rw[Ey]at e;obtain⟨⟨t1,b1⟩,tk,e0,e1,-⟩:=List.map_eq_cons_iff.1 e;subst e1;rw[e0];rfl) (by rw[rW];rfl) hl
 rw[show(ps.map fun q=>bY q.1)=p.rules.map bY by rw[<-Tr,List.map_map];rfl]at s1;rw[List.length_append]at hl;have cx:=fun j=>(Tq Γ p.change hx).at hi en Dg mf [(bP 59,a3)] j tZ (by rw[<-gq];omega);rw[<-gq,dM]at cx;have cx0:=cx [];simp only[List.append_nil]at cx0;have w0:=fun ws l r a b c=>rV Γ hi en (CD p) ws l r [] a b c;simp only[List.append_nil]at w0;have w4:=fun ws l r a b c=>rV Γ hi en (ED p) ws l r [] a b c;simp only[List.append_nil]at w4;have g1:(Hp h i en (ve p) q1)[i]? =some (.row [.sl (eR (q1)) .free,.int .i64 en,.str ⟨⟨p.name⟩⟩,.sl (bq p.kinds) .free,.sl (bq p.bf) .free,.sl [] .full,.int .i64 0,.int .i64 0,.int .i64 0,.str ⟨⟨[]⟩⟩,.sl [] .full,.int .i64 p.mode] 142):=by have:=p9 hi en (ve p) q1 [];rwa [List.append_nil]at this
 have g2:(Hp h i en (CD p) [(bP 59,a3)])[i]? =some (.row [.sl (eR ([(bP 59,a3)])) .free,.int .i64 en,.str ⟨⟨p.name⟩⟩,.sl (bq p.kinds) .free,.sl (bq p.bf) .free,.sl (p.rules.map bY) .free,.int .i64 0,.int .i64 0,.int .i64 0,.str ⟨⟨[]⟩⟩,.sl [] .full,.int .i64 p.mode] 142):=by have:=p9 hi en (CD p) [(bP 59,a3)] [];rwa [List.append_nil]at this
 have g3:(Hp h i en (ve p) q1).set i (.row [.sl (eR (q1)) .free,.int .i64 en,.str ⟨⟨p.name⟩⟩,.sl (bq p.kinds) .free,.sl (bq p.bf) .free,.sl (p.rules.map bY) .free,.int .i64 0,.int .i64 0,.int .i64 0,.str ⟨⟨[]⟩⟩,.sl [] .full,.int .i64 p.mode] 142)=Hp h i en (CD p) q1:=by have:=Gy h i en (ve p) (CD p) q1 q1 [] hi;rwa [List.append_nil,List.append_nil]at this
 have g4:(Hp h i en (CD p) [(bP 59,a3)]).set i (.row [.sl (eR ([(bP 59,a3)])) .free,.int .i64 en,.str ⟨⟨p.name⟩⟩,.sl (bq p.kinds) .free,.sl (bq p.bf) .free,.sl (p.rules.map bY) .free,.int .i64 p.change.k,.int .i64 p.change.n,.int .i64 p.change.no,.str ⟨⟨p.change.name⟩⟩,.sl (p.change.l.map aK) .free,.int .i64 p.mode] 142)=Hp h i en (ED p) [(bP 59,a3)]:=by have:=Gy h i en (CD p) (ED p) [(bP 59,a3)] [(bP 59,a3)] [] hi;rwa [List.append_nil,List.append_nil]at this
 refine cY [] Tryz.func83 ?_;refine az.eT s1 ?_;simp(disch:=omega) only[go_sem,seval,g1,g3];rw[rW];refine bu (az.eT (w0 [u_,[61]] ((bC u_,a1)::(bP 61,a2)::q2) q2 (by simp;omega) ⟨_,_,rfl,rfl,_,_,rfl,rfl,rfl⟩ (by decide))) ?_;refine az.eT cx0 ?_;simp(disch:=omega) only[go_sem,seval,g2,g4];exact Jg (az.eT (w4 [[59]] [(bP 59,a3)] [] (by simp) ⟨_,_,rfl,rfl,rfl⟩ (by decide)))
end Go.Proofs.YtmfjlankeocaoaaGreatDoor.Sx
namespace Go.Proofs.YtmfjlankeocaoaaGreatDoor.Fr
open Go Go.Proofs Go.aS
inductive Gt where
 |mk (p n:Int) (l:List Gt)
def Gt.p:Gt->Int| .mk p _ _=>p
def Gt.n:Gt->Int| .mk _ n _=>n
def Gt.l:Gt->List Gt| .mk _ _ l=>l
mutual
def bM:Gt->AV
 | .mk p n l=> .agg [.int .i64 p,.int .i64 n,.sl (Oo l) .free]
def Oo:List Gt->List AV
 |[]=>[]
 |x::r=>bM x::Oo r
end
theorem am3(l):Oo l=l.map bM:=by
 induction l with
 |nil=>rfl
 |cons x r ih=>simp[Oo,ih]
theorem iu(p n l):bM (.mk p n l)= .agg [.int .i64 p,.int .i64 n,.sl (l.map bM) .free]:=by simp[bM,am3]
theorem aaX(x):(bM x).cells.length=3:=by cases x;simp[bM,AV.cells]
theorem am4(x):AV.agg (List.take 3 (bM x).cells)=bM x:=by cases x;simp[bM,AV.cells]
theorem am5(x):(bM x).nA=true:=by cases x;simp[bM,AV.nA,AV.one]
theorem am6(a b c x):iU [a,b,c] 0 (bM x).cells=(bM x).cells:=by cases x;rfl
theorem am7(x):(bM x).isAgg=true:=by cases x;rfl
attribute [go_sem] am7 aaX am4 am5 am6
theorem CE{x p n l}(h:x∈l){k}(hk:SizeOf.sizeOf (Gt.mk p n l)<k+1):SizeOf.sizeOf x<k:=by have:=List.sizeOf_lt_of_mem h;grind
inductive Sh:Gt->Prop
 |mk {p n:Int} {l:List Gt} (h1:l.length<=9223372036854775807) (h2:∀x∈l,Sh x) (h3:-9223372036854775808<=p) (h4:p<=9223372036854775807) (h5:-9223372036854775808<=n) (h6:n<=9223372036854775807):Sh (.mk p n l)
theorem Sh.len{p n l}(h:Sh (.mk p n l)):l.length<=9223372036854775807:=by cases h;assumption
theorem Sh.mem{p n l}(h:Sh (.mk p n l)):∀x∈l,Sh x:=by cases h;assumption
theorem tS{α:Type}{ae r}{x:α}{k}(h:(ae++x::r).length<=k):ae.length+1+r.length<=k:=by simp at h;omega
mutual
def leaves:Gt->Int->Int
 | .mk _ _ l,lim=>if l.isEmpty then 1 else wk l lim 0
def wk:List Gt->Int->Int->Int
 |[],_,n=>n
 |x::r,lim,n=>if n<=lim then wk r lim (n+leaves x (lim-n))else n
end
mutual
theorem Tt:∀(g:Gt) (lim:Int),0<=lim->1<=leaves g lim/\leaves g lim<=lim+1
 | .mk p n [],lim,h=>by simp[leaves];omega
 | .mk p n (x::r),lim,h=>by have h1:=Tt x lim h;have h2:=aaY r lim (leaves x lim) h (by omega) (by omega);simp only[leaves,wk,List.isEmpty_cons,Bool.false_eq_true,if_false,if_pos h,Int.sub_zero,Int.zero_add];omega
theorem aaY:∀(l:List Gt) (lim n:Int),0<=lim->0<=n->n<=lim+1->n<=wk l lim n/\wk l lim n<=lim+1
 |[],lim,n,_,_,h=>by simp[wk];omega
 |x::r,lim,n,h0,h1,h2=>by
  simp only[wk];split
  .rename_i hn;have h3:=Tt x (lim-n) (by omega);have h4:=aaY r lim (n+leaves x (lim-n)) h0 (by omega) (by omega);omega
  .omega
end
def A0:Nat->Gt->Bool
 |0,_=>true
 |d+1,g=>g.l.any (A0 d)
mutual
def iM:Gt->Bool
 | .mk p n l=>if 0<=p then decide (p<64)&&decide (n=0)&&l.isEmpty else decide (p=-1)&&decide (1<=n)&&decide (n<=4096)&&qM l
def qM:List Gt->Bool
 |[]=>true
 |x::r=>iM x&&qM r
end
theorem Tu(l):qM l=l.all iM:=by
 induction l with
 |nil=>rfl
 |cons x r ih=>simp[qM,ih]
def dp(g:Gt):Int:=if A0 16 g||decide (leaves g 256>256)then 2 else if iM g then 0 else 220
def anyS{α β:Type}(p:α->β->Bool×β):List α->β->Bool×β
 |[],b=>(false,b)
 |x::r,b=>if(p x b).1 then(true,(p x b).2)else anyS p r (p x b).2
def xV{α β:Type}(p:α->β->Bool×β):List α->Nat->β->Int×β
 |[],_,b=>(-1,b)
 |x::r,i,b=>if(p x b).1 then(i,(p x b).2)else xV p r (i+1) (p x b).2
theorem am8{α β}(p:α->β->Bool×β)(l i b):(xV p l i b).2=(anyS p l b).2/\(0<=(xV p l i b).1<->(anyS p l b).1=true):=by
 induction l generalizing i b with
 |nil=>simp[xV,anyS]
 |cons x r ih=>
  simp only[xV,anyS];grind
theorem am9(Γ){β}(xs)(hx:xs.length<=9223372036854775807)(fn fs cs)(hp:β->AH)(p)(inv:β->Prop)
  (H:∀x∈xs,∀b,inv b->((p x b).1=false->inv (p x b).2)/\az Tryz.prog Γ fn (fs++bM x::cs) (hp b) fun v h'=>h'=hp (p x b).2/\v= .bool (p x b).1)(b)(hb:inv b):
  az Tryz.prog Γ 226 [.sl (xs.map bM) .free,.func fn fs cs] (hp b) fun v h'=>h'=hp (xV p xs 0 b).2/\v= .int .i64 (xV p xs 0 b).1:=by
 refine cY [.tmp 4] Tryz.func226 ?_;refine oO (β:=β) xs [8,7,1,0] (fun ae _=>[(8,.int .i64 ae.length),(7,.int .i64 xs.length),(1,.func fn fs cs),(0,.sl (xs.map bM) .free)])
   (fun b=>hp b) (fun ae rest b'=>inv b'/\xV p xs 0 b=xV p rest ae.length b') b ?_ rfl ⟨hb,rfl⟩ Ty.mixed (by kernel_rfl) ?_ ?_
 .exact dL
 .rintro ae x r b' rfl ⟨hi,hs⟩;have vg:=tS hx;simp(disch:=omega) only[go_sem,seval,List.map_append,List.map_cons,List.length_append];refine bu (aJ.pos (by omega)) ?_;obtain⟨h1,h2⟩:=H x (by simp) b' hi;refine bu (az.eT (h2.args (by simp))) ?_;refine lH.intro (fun hb=>?_) (fun hb=>?_)<;>simp(disch:=omega) only[go_sem,seval]
  .rw[hs,xV,if_pos hb];exact⟨rfl,rfl⟩
  .refine cd (p x b').2 ⟨h1 (by simpa using hb),by rw[hs,xV,if_neg (by simp at hb;simp[hb])];simp⟩ ?_ rfl;simp(disch:=omega) only[go_sem,seval,List.length_append]
 .rintro b' ⟨_,hs⟩;refine aU ?_;refine fE [0] ?_;rw[hs];exact⟨rfl,rfl⟩
theorem aaZ(Γ){β}(xs)(hx:xs.length<=9223372036854775807)(fn fs cs)(hp:β->AH)(p)(inv:β->Prop)
  (H:∀x∈xs,∀b,inv b->((p x b).1=false->inv (p x b).2)/\az Tryz.prog Γ fn (fs++bM x::cs) (hp b) fun v h'=>h'=hp (p x b).2/\v= .bool (p x b).1)(b)(hb:inv b):
  az Tryz.prog Γ 186 [.sl (xs.map bM) .free,.func fn fs cs] (hp b) fun v h'=>h'=hp (anyS p xs b).2/\v= .bool (anyS p xs b).1:=by
 refine cY [.tmp 4] Tryz.func186 ?_;refine bu (az.eT (am9 Γ xs hx fn fs cs hp p inv H b hb)) ?_;have:=am8 p xs 0 b;grind
theorem am_(q)(l:List Gt):(anyS (fun x (_)=>(q x,())) l ()).1=l.any q:=by
 induction l with
 |nil=>rfl
 |cons x r ih=>
  simp only[anyS,List.any_cons];cases q x<;>simp[ih]
theorem aa0(Γ:GG):∀(k:Nat) (g:Gt) (h:AH),SizeOf.sizeOf g<k->Sh g->AC Γ 121 [bM g] h (.bool (iM g))
 |0,_,_,hk,_=>absurd hk (Nat.not_lt_zero _)
 |k+1,.mk p n l,h,cj,hs=>by
  refine az.drop ?_;refine cS [.tmp 2] Tryz.func121 ?_;simp only[iu];refine aU ?_;have nN:=hs.len;have j7:=hs.mem;refine aJ.intro (fun hp=>?_) (fun hp=>?_)<;>simp(disch:=omega) only[go_sem,seval]
  .refine aJ.intro (fun h1=>?_) (fun h1=>?_)<;>simp(disch:=omega) only[go_sem,seval]
   .refine aJ.intro (fun h2=>?_) (fun h2=>?_)<;>simp(disch:=omega) only[go_sem,seval]
    .cases l<;>simp[iM,hp,h1,h2]<;>omega
    .simp[iM,hp,h2]
   .simp[iM,hp,h1]
  refine aJ.intro (fun h1=>?_) (fun h1=>?_)<;>simp(disch:=omega) only[go_sem,seval];rotate_left
  .simp[iM,hp,h1]
  refine aJ.intro (fun h2=>?_) (fun h2=>?_)<;>simp(disch:=omega) only[go_sem,seval];rotate_left
  .subst h1;simp[iM];intros;omega
  refine aJ.intro (fun h3=>?_) (fun h3=>?_)<;>simp(disch:=omega) only[go_sem,seval];rotate_left
  .subst h1;simp[iM];intros;omega
  have hb:iM (.mk p n l)=l.all iM:=by simp[iM,Tu,show p=-1 by omega,show(1:Int)<=n by omega,show n<=(4096:Int)by omega]
  rw[hb];refine az.eT (aaZ Γ l nN 188 [] [] (fun _=>_) (fun x (_:Unit)=>(!iM x,())) (fun _=>True) (fun x hx b _=>⟨fun _=>trivial,?_⟩) () trivial) ?_
  .refine az.drop ?_;refine cY [.tmp 2] Tryz.func188 ?_;exact qx (aa0 Γ k x _ (CE hx cj) (j7 x hx))
  refine aU ?_;rw[am_,List.any_eq_not_all_not];simp
theorem ana(Γ g h)(hs:Sh g):AC Γ 121 [bM g] h (.bool (iM g)):=
 aa0 Γ _ g h (Nat.lt_succ_self _) hs
mutual
def kF:Nat->Gt->Int->Bool×Int
 |d,.mk _ _ l,n=>if 16<d then(true,n)else if l.isEmpty then(decide (n-1<0),n-1)else qN (d+1) l n
def qN:Nat->List Gt->Int->Bool×Int
 |_,[],n=>(false,n)
 |d,x::r,n=>if(kF d x n).1 then(true,(kF d x n).2)else qN d r (kF d x n).2
end
theorem anb(d l n):anyS (fun x n=>kF d x n) l n=qN d l n:=by
 induction l generalizing n with
 |nil=>rfl
 |cons x r ih=>simp only[anyS,qN,ih]
mutual
theorem Tv:∀(d:Nat) (g:Gt) (n:Int),0<=n->(kF d g n).2<=n/\-1<=(kF d g n).2/\((kF d g n).1=false->0<=(kF d g n).2)
 |d,.mk _ _ l,n,h=>by
  rw[kF];split
  .simp;omega
  .split
   .simp;omega
   .exact aa1 (d+1) l n h
theorem aa1:∀(d:Nat) (l:List Gt) (n:Int),0<=n->(qN d l n).2<=n/\-1<=(qN d l n).2/\((qN d l n).1=false->0<=(qN d l n).2)
 |d,[],n,h=>by simp[qN];omega
 |d,x::r,n,h=>by
  have h1:=Tv d x n h;rw[qN];split
  .grind
  .rename_i hc;have h2:=aa1 d r _ (h1.2.2 (by simpa using hc));exact⟨by omega,h2.2⟩
end
theorem aa2(h i n):lJ h (h.set i (.row [.int .i64 n] 3)):=lJ.set (show bB h.length [.int .i64 n]from bB.cons (.int _ _) (bB.nil _)) (by simp)
def GB(i j:Nat):AV:= .func 185 [] [.ptr (some (i,0)),.ptr (some (j,0))]
theorem aa3(Γ:GG):∀(k:Nat) (g:Gt) (d:Nat) (n:Int) (h:AH) (i j:Nat),SizeOf.sizeOf g<k->Sh g->d<=17->0<=n->n<=1000000->h[i]? =some (.row [.int .i64 n] 3)->h[j]? =some (.row [GB i j] 246)->
  az Tryz.prog Γ 185 [bM g,.int .i64 d,.ptr (some (i,0)),.ptr (some (j,0))] h fun v h'=>h'=h.set i (.row [.int .i64 (kF d g n).2] 3)/\v= .bool (kF d g n).1
 |0,_,_,_,_,_,_,hk,_,_,_,_,_,_=>absurd hk (Nat.not_lt_zero _)
 |k+1,.mk p q l,d,n,h,i,j,cj,hs,hd,L3,J4,hi,hj=>by
  have qI:=xA hi;have jU:=xA hj;refine az.MX (aa2 _ _ _) ?_;refine cS [.tmp 6] Tryz.func185 ?_;simp only[iu];refine aU ?_;refine aJ.intro (fun h1=>?_) (fun h1=>?_)<;>simp(disch:=omega) only[go_sem,seval]
  .have:kF d (.mk p q l) n=(true,n):=by rw[kF,if_pos (by omega)]
   rw[this,ph hi];grind
  refine aJ.intro (fun h2=>?_) (fun h2=>?_)<;>simp(disch:=omega) only[go_sem,seval]
  .have hl:l=[]:=by simp_all
   subst hl;simp(disch:=omega) only[go_sem,seval,Ay,hi,Rw,ajN];have:kF d (.mk p q []) n=(decide (n-1<0),n-1):=by rw[kF,if_neg (by omega)];rfl
   simp_all
  .have hl:l.isEmpty=false:=by grind
   have hw:kF d (.mk p q l) n=qN (d+1) l n:=by rw[kF,if_neg (by omega),hl];simp
   have nf:i≠j:=fun e=>by grind
   generalize hH:h++[cO.row [AV.int IntKind.i64 p,AV.int IntKind.i64 q,AV.sl (l.map bM) Own.free] 49,cO.row [AV.int IntKind.i64 ↑d] 3]=H;have Hi:H[i]? =some (.row [.int .i64 n] 3):=by subst hH;rw[Ay _ qI];exact hi
   have Hj:H[j]? =some (.row [GB i j] 246):=by subst hH;rw[Ay _ jU];exact hj
   have Hd:H[h.length+1]? =some (.row [.int .i64 d] 3):=by subst hH;simp
   have Hl:=xA Hd;refine az.eT ((aaZ Γ l hs.len 187 [] [.ptr (some (j,0)),.ptr (some (h.length+1,0))] (fun b=>H.set i (.row [.int .i64 b] 3)) (fun x b=>kF (d+1) x b) (fun b=>0<=b/\b<=1000000)
    (fun x hx b hb=>⟨fun hc=>?_,?_⟩) n ⟨L3,J4⟩).heap (ph Hi)) ?_
   .have:=Tv (d+1) x b hb.1;exact⟨this.2.2 hc,by omega⟩
   .have e1:∀o,(H.set i (.row [.int .i64 b] 3)).set i o=H.set i o:=fun o=>by simp
    have k1:(H.set i (.row [.int .i64 b] 3))[i]? =some (.row [.int .i64 b] 3):=by rw[List.getElem?_set_self (by omega)]
    have k2:(H.set i (.row [.int .i64 b] 3))[j]? =some (.row [GB i j] 246):=by rw[List.getElem?_set_ne nf];exact Hj
    have k3:(H.set i (.row [.int .i64 b] 3))[h.length+1]? =some (.row [.int .i64 d] 3):=by rw[List.getElem?_set_ne (by omega)];exact Hd
    rw[<-e1 (.row [.int .i64 (kF (d+1) x b).2] 3)];generalize H.set i (.row [.int .i64 b] 3)=H1 at k1 k2 k3|-;have m1:=xA k1;have m2:=xA k2;have m3:=xA k3;refine az.MX (aa2 _ _ _) ?_;refine cS [.tmp 4] Tryz.func187 ?_;simp(disch:=omega) only[go_sem,seval,Ay,k2,k3,GB];refine az.eT (aa3 Γ k x (d+1) b _ i j (CE hx cj) (hs.mem x hx) (by omega) hb.1 hb.2 (by rw[Ay _ m1];exact k1) (by rw[Ay _ m2];exact k2)) ?_;simp(disch:=omega) only[go_sem,seval,Rw]
   .have e1:∀v,H.set i (.row [.int .i64 v] 3)=h.set i (.row [.int .i64 v] 3)++_:=fun v=>by rw[<-hH,Rw _ _ qI]
    rw[anb];refine aU ?_;grind
theorem anf(Γ g)(d:Nat)(n h i j)(hs:Sh g)(hd:d<=17)(h0:0<=n)(h1:n<=1000000)(hi:h[i]? =some (.row [.int .i64 n] 3))(hj:h[j]? =some (.row [GB i j] 246)):
  az Tryz.prog Γ 185 [bM g,.int .i64 d,.ptr (some (i,0)),.ptr (some (j,0))] h fun v h'=>h'=h.set i (.row [.int .i64 (kF d g n).2] 3)/\v= .bool (kF d g n).1:=
 aa3 Γ _ g d n h i j (Nat.lt_succ_self _) hs hd h0 h1 hi hj
theorem ang(Γ g h)(hs:Sh g):AC Γ 120 [bM g] h (.bool (kF 1 g 256).1):=by refine az.drop ?_;refine cY [.tmp 2] Tryz.func120 ?_;exact Jg (az.eT (anf Γ g 1 256 _ _ _ hs (by omega) (by omega) (by omega) (by grind) (by simp(disch:=omega) only[go_sem,seval,GB])))
mutual
def js:Gt->Int
 | .mk _ _ l=>if l.isEmpty then 1 else gF l
def gF:List Gt->Int
 |[]=>0
 |x::r=>js x+gF r
end
mutual
theorem CF:∀g:Gt,1<=js g
 | .mk _ _ []=>by simp[js]
 | .mk _ _ (x::r)=>by have h1:=CF x;have h2:=CG r;simp[js,gF];omega
theorem CG:∀l:List Gt,0<=gF l
 |[]=>by simp[gF]
 |x::r=>by have h1:=CF x;have h2:=CG r;simp[gF];omega
end
mutual
theorem Oq:∀(g:Gt) (lim:Int),0<=lim->(leaves g lim<=lim/\leaves g lim=js g)\/(lim<leaves g lim/\lim<js g)
 | .mk _ _ [],lim,h=>by simp[leaves,js];omega
 | .mk _ _ (x::r),lim,h=>by have:=aa4 (x::r) lim 0 h (by omega) (by omega);simpa [leaves,js]using this
theorem aa4:∀(l:List Gt) (lim n:Int),0<=lim->0<=n->n<=lim+1->(wk l lim n<=lim/\wk l lim n=n+gF l)\/(lim<wk l lim n/\lim<n+gF l)
 |[],lim,n,h,h0,h1=>by simp[wk,gF];omega
 |x::r,lim,n,h,h0,h1=>by
  simp only[wk,gF];have p2:=CG r;have p1:=CF x;split
  .have a1:=Oq x (lim-n) (by omega);have a3:=Tt x (lim-n) (by omega);have a2:=aa4 r lim (n+leaves x (lim-n)) h (by omega) (by omega);omega
  .omega
end
mutual
theorem aa5:∀(g:Gt) (k d:Nat) (n:Int),d+k=17->0<=n->((kF d g n).1=(A0 k g||decide (n<js g))/\((kF d g n).1=false->(kF d g n).2=n-js g))
 | .mk p q l,0,d,n,hk,hn=>by rw[kF,if_pos (by omega)];simp[A0]
 | .mk p q [],k+1,d,n,hk,hn=>by
  rw[kF,if_neg (by omega)];refine⟨?_,fun _=>?_⟩
  .simp only[A0,Gt.l,js,List.isEmpty_nil,if_true,List.any_nil,Bool.false_or,decide_eq_decide];omega
  .simp[js]
 | .mk p q (x::r),k+1,d,n,hk,hn=>by rw[kF,if_neg (by omega)];have:=aa6 (x::r) k (d+1) n (by omega) hn;simpa [A0,Gt.l,js]using this
theorem aa6:∀(l:List Gt) (k d:Nat) (n:Int),d+k=17->0<=n->((qN d l n).1=(l.any (A0 k)||decide (n<gF l))/\((qN d l n).1=false->(qN d l n).2=n-gF l))
 |[],k,d,n,hk,hn=>by
  refine⟨?_,fun _=>by simp[qN,gF]⟩;have hx:gF []=0:=by simp[gF]
  simp only[qN,List.any_nil,Bool.false_or];grind
 |x::r,k,d,n,hk,hn=>by
  have hx:gF (x::r)=js x+gF r:=by simp[gF]
  obtain⟨h1,h2⟩:=aa5 x k d n hk hn;have h0:=Tv d x n hn;have p2:=CG r;rw[qN];split
  .grind
  .rename_i hc;have hc:(kF d x n).1=false:=by simpa using hc
   have e:=h2 hc;obtain⟨h3,h4⟩:=aa6 r k d _ hk (h0.2.2 hc);grind
end
theorem anh(g):(kF 1 g 256).1=(A0 16 g||decide (leaves g 256>256)):=by rw[(aa5 g 16 1 256 rfl (by omega)).1];have:=Oq g 256 (by omega);congr 1;rw[decide_eq_decide];omega
theorem GC(Γ g h)(hs:Sh g):AC Γ 59 [bM g] h (.int .i64 (dp g)):=by
 refine az.drop ?_;refine cY [.tmp 2] Tryz.func59 ?_;refine az.cv (ang Γ g _ hs) ?_;rw[anh];refine aU ?_;refine lH.intro (fun h1=>?_) (fun h1=>?_)<;>simp(disch:=omega) only[go_sem,seval]
 .simp[dp,h1]
 refine bL (ana Γ g _ hs) ?_;refine lH.intro (fun h3=>?_) (fun h3=>?_)<;>simp(disch:=omega) only[go_sem,seval];all_goals simp only[dp,h1,h3];rfl
def pC:Nat->List Int->List (Nat×AV×AV)
 |_,[]=>[]
 |i,n::r=>(i,.int .i64 n,.int .i64 1)::pC (i+1) r
theorem ani(l r i):pC i (l++r)=pC i l++pC (i+l.length) r:=by
 induction l generalizing i with
 |nil=>simp[pC]
 |cons a l ih=>simp[pC,ih,Nat.add_assoc,Nat.add_comm 1]
theorem Io(p l i):(p∈l/\∃j e,kr (.int .i64 p) (pC i l)=some (some j)/\(pC i l)[j]? =some e/\e.2.2= .int .i64 1)\/(p∉l/\kr (.int .i64 p) (pC i l)=some none):=by
 induction l generalizing i with
 |nil=>exact .inr ⟨by simp,rfl⟩
 |cons a r ih=>
  by_cases ha:p=a
  .subst ha;exact .inl ⟨by simp,0,_,by simp[pC,kr],rfl,rfl⟩
  .rcases ih (i+1)with⟨h1,j,e,h2,h3,h4⟩|⟨h1,h2⟩
   .exact .inl ⟨by simp[h1],j+1,e,by simp[pC,kr,ha,h2],by simpa [pC]using h3,h4⟩
   .exact .inr ⟨by simp[ha,h1],by simp[pC,kr,ha,h2]⟩
theorem anj(p l i c K):Dm false (.int .i64 0) (.int .i64 p) (some (.map (pC i l) c)) K=K (.int .i64 (if p∈l then 1 else 0)):=by
 unfold Dm tA;rcases Io p l i with⟨h1,j,e,h2,h3,h4⟩|⟨h1,h2⟩
 .simp[h1,h2,h3,h4]
 .simp[h1,h2]
theorem aa7{α:Type}(h j)(a b c d e f:α):h++a::b::c::d::e::f::j=(h++[a,b,c,d,e])++f::j:=by simp
mutual
def ie(W:Int->Bool):Gt->Bool
 | .mk p n l=>if 0<=p then W p else nw W l n
def nw(W:Int->Bool):List Gt->Int->Bool
 |[],_=>false
 |x::r,n=>if ie W x then(if n-1=0 then true else nw W r (n-1))else nw W r n
end
theorem aa8(Γ:GG)(who:List Int)(c:Nat):∀(k:Nat) (g:Gt) (h:AH) (m:Nat),SizeOf.sizeOf g<k->Sh g->iM g=true->h[m]? =some (.map (pC 0 who) c)->
  AC Γ 109 [bM g,.map (some m)] h (.bool (ie (fun p=>decide (p∈who)) g))
 |0,_,_,_,hk,_,_,_=>absurd hk (Nat.not_lt_zero _)
 |k+1,.mk p n l,h,m,cj,hs,hr,hm=>by
  have Th:=xA hm;refine az.drop ?_;refine cS [.cell 4 4] Tryz.func109 ?_;simp only[iu];refine aU ?_;refine aJ.intro (fun h1=>?_) (fun h1=>?_)<;>simp(disch:=omega) only[go_sem,seval]
  .simp(disch:=omega) only[go_sem,seval,Ay,hm,anj];simp only[ie,if_pos h1];grind
  refine cY [.tmp 4] Tryz.func163 ?_;refine bu (bw.keep [18,5,4]) ?_;refine ajM rfl (fun li iZ=>?_);refine aU ?_;obtain⟨K,hK⟩:∃K:Int->Bool->cO->AH,K=fun x b lo=>h++[.row [.int .i64 p,.int .i64 n,.sl (l.map bM) .free] 49,.row [.bool b] 4,.row [.int .i64 x] 3,.row [.int .i64 p,.int .i64 n,.sl (l.map bM) .free] 49,.row [.map (some m)] 169,lo]:=⟨_,rfl⟩;have s5:∀x b lo,(K x b lo).length=h.length+6:=by subst hK;simp
  have Kb:∀x b lo j,(K x b lo++j)[h.length+1]? =some (.row [.bool b] 4):=by subst hK;simp
  have Kn:∀x b lo j,(K x b lo++j)[h.length+2]? =some (.row [.int .i64 x] 3):=by subst hK;simp
  have Kd:∀x b lo j,(K x b lo++j)[h.length+3]? =some (.row [.int .i64 p,.int .i64 n,.sl (l.map bM) .free] 49):=by subst hK;simp
  have Ke:∀x b lo j,(K x b lo++j)[h.length+4]? =some (.row [.map (some m)] 169):=by subst hK;simp
  have Kl:∀x b lo j,(K x b lo++j)[h.length+5]? =some lo:=by subst hK;simp
  have Km:∀x b lo j,(K x b lo++j)[m]? =some (.map (pC 0 who) c):=by subst hK;intros;rw[List.append_assoc,Ay _ Th];exact hm
  have Kj:∀x b lo j r,(K x b lo++(j++[r]))[h.length+6+j.length]? =some r:=by intro x b lo j r;rw[<-s5 x b lo,nK];simp
  have Sb:∀x b lo j b',(K x b lo++j).set (h.length+1) (.row [.bool b'] 4)=K x b' lo++j:=by subst hK;simp
  have Sn:∀x b lo j x',(K x b lo++j).set (h.length+2) (.row [.int .i64 x'] 3)=K x' b lo++j:=by subst hK;simp
  have Sl:∀x b lo j J6,(K x b lo++j).set (h.length+5) J6=K x b J6++j:=by subst hK;simp
  have Sj:∀x b lo j r r',(K x b lo++(j++[r])).set (h.length+6+j.length) r'=K x b lo++(j++[r']):=by intro x b lo j r r';rw[<-s5 x b lo,mq];simp
  refine az.heap (h1:=K n false (.loop .ready none li)++[]) ?_ (by subst hK;simp);refine cS [] Tryz.func213 ?_;have HK:∀x b,lJ (h++[.row [.int .i64 p,.int .i64 n,.sl (l.map bM) .free] 49,.row [.bool false] 4,.row [.int .i64 n] 3,.row [.int .i64 p,.int .i64 n,.sl (l.map bM) .free] 49,.row [.map (some m)] 169])
    (h++[.row [.int .i64 p,.int .i64 n,.sl (l.map bM) .free] 49,.row [.bool b] 4,.row [.int .i64 x] 3,.row [.int .i64 p,.int .i64 n,.sl (l.map bM) .free] 49,.row [.map (some m)] 169]):=fun x b=>by
   have q1:=lJ.set (h:=h++[.row [.int .i64 p,.int .i64 n,.sl (l.map bM) .free] 49,.row [.bool false] 4,.row [.int .i64 n] 3,.row [.int .i64 p,.int .i64 n,.sl (l.map bM) .free] 49,.row [.map (some m)] 169])
    (i:=h.length+1) (ob:= .row [.bool b] 4) (bB.cons (.bool _) (bB.nil _)) (by simp)
   have q2:=lJ.set (h:=h++[.row [.int .i64 p,.int .i64 n,.sl (l.map bM) .free] 49,.row [.bool b] 4,.row [.int .i64 n] 3,.row [.int .i64 p,.int .i64 n,.sl (l.map bM) .free] 49,.row [.map (some m)] 169])
    (i:=h.length+2) (ob:= .row [.int .i64 x] 3) (bB.cons (.int _ _) (bB.nil _)) (by simp)
   simp only[mq,List.set_cons_succ,List.set_cons_zero]at q1 q2;exact q1.trans q2
  have Kd0:∀x b lo,(K x b lo)[h.length+3]? =some (.row [.int .i64 p,.int .i64 n,.sl (l.map bM) .free] 49):=fun x b lo=>by simpa using Kd x b lo []
  simp(disch:=omega) only[go_sem,seval,Kd0];have hN:1<=n/\n<=4096/\∀x∈l,iM x=true:=by simp[iM,h1,Tu]at hr;exact⟨by omega,by omega,hr.2⟩
  refine oO (β:=Int×AH) l [9,8,7,0,2] (fun ae _=>[(9,.int .i64 ae.length),(8,.int .i64 l.length),(7,.sl (l.map bM) .free),(0,.yield (h.length+5)),(2,.ptr (some (h.length+4,0)))])
   (fun b=>K b.1 false (.loop .ready none li)++b.2) (fun ae rest b=>1<=b.1/\b.1<=n/\nw (fun p=>decide (p∈who)) l n=nw (fun p=>decide (p∈who)) rest b.1) (n,[]) ?_ (by simp) ⟨hN.1,by simp,rfl⟩ Ty.mixed (by kernel_rfl) ?_ ?_
  .exact dL
  .rintro ae x r ⟨b,j⟩ rfl ⟨fI,jH,hb⟩;simp only at fI jH hb|-;have vg:=tS hs.len;simp(disch:=omega) only[go_sem,seval,List.map_append,List.map_cons,List.length_append];refine aJ.pos (by omega) ?_;simp(disch:=omega) only[go_sem,seval,s5,Kj,Sj,Ke];refine bL (aa8 Γ who c k x _ m (CE (by simp) cj) (hs.mem x (by simp)) (hN.2.2 x (by simp)) (Km _ _ _ _)) ?_;refine lH.intro (fun hh=>?_) (fun hh=>?_)<;>simp(disch:=omega) only[go_sem,seval,Kj]
   .refine Jf iZ (Kl _ _ _ _) rfl rfl Ty.mixed (by kernel_rfl) rfl ?_;simp(disch:=omega) only[go_sem,seval,Kl,Kn,Sl,Sn];refine aJ.intro (fun Co=>?_) (fun Co=>?_)<;>simp(disch:=omega) only[go_sem,seval]
    .simp(disch:=omega) only[go_sem,seval,Kl,Sl,Kb,Sb];refine⟨_,.done,some .ret,j++[.row (bM x).cells 49],by subst hK;simp only[List.append_assoc,List.cons_append,List.nil_append];rw[aa7],by simpa using HK (b-1) true,by simp,?_⟩;refine bu (Rv Ty.mixed (by kernel_rfl)) ?_;simp only[ie,if_neg h1];rw[hb,nw,if_pos hh,if_pos Co]
    .simp(disch:=omega) only[go_sem,seval,Kl,Sl];refine cd (b-1,j++[.row (bM x).cells 49]) ⟨by simp only;omega,by simp only;omega,?_⟩ ?_ rfl
     .rw[hb,nw,if_pos hh,if_neg Co]
     .simp(disch:=omega) only[go_sem,seval,List.length_append]
   .refine cd (b,j++[.row (bM x).cells 49]) ⟨fI,jH,?_⟩ ?_ rfl
    .rw[hb,nw,if_neg (by simp[hh])]
    .simp(disch:=omega) only[go_sem,seval,List.length_append]
  .rintro⟨b,j⟩ ⟨fI,jH,hb⟩;refine aU ?_;refine⟨_,.ready,none,j,by subst hK;simp only[List.append_assoc,List.cons_append,List.nil_append];rw[aa7],by simpa using HK b false,by simp,?_⟩;refine aU ?_;refine fE [4] ?_;simp only[ie,if_neg h1];rw[hb,nw]
def fV:Int->List Int->Bool
 |_,[]=>true
 |last,n::r=>decide (last<n)&&decide (n<64)&&fV n r
def encI(l:List Int):List AV:=l.map fun i=> .int .i64 i
def rZ(g:Gt)(who:List Int):Bool×Int:=
 if dp g=0 then(if fV (-1) who then(ie (fun p=>decide (p∈who)) g,0)else(false,1))else(false,dp g)
def CH(r:Bool×Int):AV:= .tuple [.bool r.1,.int .i64 r.2]
theorem anp(l i n)(h:∀m∈l,m<n):kr (.int .i64 n) (pC i l)=some none:=by
 rcases Io n l i with⟨h1,_⟩|⟨_,h2⟩
 .have:=h n h1;omega
 .exact h2
theorem zm{g}(h:dp g=0):iM g=true:=by unfold dp at h;grind
theorem Tw(Γ g who h)(hs:Sh g)(hw:who.length<=9223372036854775807):
  AC Γ 45 [bM g,.sl (encI who) .free] h (CH (rZ g who)):=by
 refine az.drop ?_;refine cY [.tmp 4,.tmp 5] Tryz.func45 ?_;refine bL (GC Γ g _ hs) ?_;refine aJ.intro (fun h1=>?_) (fun h1=>?_)<;>simp(disch:=omega) only[go_sem,seval];rotate_left
 .simp[rZ,h1,CH]
 have hg:=zm h1;refine oO (β:=Int×List Int) who [19,18,17,8,7,2] (fun ae b=>[(19,.int .i64 ae.length),(18,.int .i64 who.length),(17,.sl (encI who) .free),(8,.int .i64 b.1),(7,.map (some (h.length+1))),(2,.ptr (some (h.length,0)))])
  (fun b=>h++[.row (bM g).cells 49,.map (pC 0 b.2) b.2.length]) (fun ae rest b=>b.2=ae/\(∀m∈ae,m<=b.1)/\fV (-1) who=fV b.1 rest) (-1,[]) ?_ rfl ⟨rfl,by simp,rfl⟩ Ty.mixed (by kernel_rfl) ?_ ?_
 .simp(disch:=omega) only[go_sem,seval,encI,List.length_map]
 .rintro ae x r ⟨b,ae⟩ rfl ⟨rfl,hb,hx⟩;have vg:=tS hw;simp only at hb hx vg|-;simp(disch:=omega) only[go_sem,seval,encI,List.map_append,List.map_cons,List.length_append];refine bu (aJ.pos (by omega)) ?_;refine aJ.intro (fun h2=>?_) (fun h2=>?_)<;>simp(disch:=omega) only[go_sem,seval]
  .simp[rZ,h1,hx,fV,CH,show¬b<x by omega]
  refine aJ.intro (fun h3=>?_) (fun h3=>?_)<;>simp(disch:=omega) only[go_sem,seval]
  .simp[rZ,h1,hx,fV,CH,show¬x<64 by omega]
  have lb:=anp ae 0 x (fun m hm=>by have:=hb m hm;omega);rw[lb];simp(disch:=omega) only[go_sem,seval,Option.bind_some,sD];refine cd (x,ae++[x]) ⟨rfl,fun m hm=>?_,?_⟩ ?_ ?_
  .grind
  .rw[hx];simp[fV,show b<x by omega,show x<64 by omega]
  .simp(disch:=omega) only[go_sem,seval,List.length_append]
  .simp[ani,pC]
 .rintro⟨b,w⟩ ⟨Fq,hb,hx⟩;simp only at Fq hx;subst Fq;simp(disch:=omega) only[go_sem,seval,encI];refine fE [7,2] ?_;refine bL (aa8 Γ w w.length _ g _ (h.length+1) (Nat.lt_succ_self _) hs hg (by grind)) ?_;simp[rZ,h1,hx,fV,CH]
theorem Ou:∀g:Gt,loose (bM g)=bM g
 | .mk p n l=>by
  have:eI (l.map bM)=l.map bM:=by rw[rK,List.map_map];exact List.map_congr_left fun x hx=>Ou x
  rw[iu];simp only[loose,eI,this]
theorem Ov(l:List Gt):eI (l.map bM)=l.map bM:=uL _ Ou l
theorem Tz(k:Nat):∀g:Gt,RB k (bM g)
 | .mk p n l=>by rw[iu];refine .Al (bB.cons (.int _ _) (bB.cons (.int _ _) (bB.cons (.qo fun r hr=>?_) (bB.nil _))));obtain⟨x,hx,rfl⟩:=List.mem_map.1 hr;exact Tz k x
theorem Ow(k)(l:List Gt):RB k (.sl (l.map bM) .free)=True:=eq_true (.qo fun r hr=>by obtain⟨x,hx,rfl⟩:=List.mem_map.1 hr;exact Tz k x)
theorem aa_(k g):RB k (bM g)=True:=eq_true (Tz k g)
attribute [go_sem] Ou Ov Ow aa_
def A1(n:Int):AV:= .agg [.int .i64 n,.int .i64 0,.sl [] .full]
theorem anq(l m):encI (l++m)=encI l++encI m:=by simp[encI]
theorem anr(x l):encI (x::l)= .int .i64 x::encI l:=rfl
theorem cc(l):(encI l).length=l.length:=by simp[encI]
def EF(x:Int):List Int->List Int
 |[]=>[x]
 |y::r=>if x<=y then x::y::r else y::EF x r
def qO:List Int->List Int
 |[]=>[]
 |x::r=>EF x (qO r)
theorem aba(x l):(EF x l).Perm (x::l):=by
 induction l with
 |nil=>exact .refl _
 |cons y r ih=>
  simp only[EF];grind
theorem ans(x l)(h:l.Pairwise (·<=·)):(EF x l).Pairwise (·<=·):=by
 induction l with
 |nil=>simp[EF]
 |cons y r ih=>
  obtain⟨h1,h2⟩:=List.pairwise_cons.1 h;simp only[EF];split
  .rename_i vh;refine List.pairwise_cons.2 ⟨fun z hz=>?_,h⟩;grind
  .rename_i vh;refine List.pairwise_cons.2 ⟨fun z hz=>?_,ih h2⟩;rcases List.mem_cons.1 ((aba x r).mem_iff.1 hz)with rfl|hz
   .omega
   .exact h1 z hz
theorem zn(l):(qO l).Perm l:=by
 induction l with
 |nil=>exact .refl _
 |cons x r ih=>exact(aba x _).trans (ih.cons x)
theorem J8(l):(qO l).Pairwise (·<=·):=by
 induction l with
 |nil=>exact .nil
 |cons x r ih=>exact ans x _ ih
theorem abb{l s}(h1:s.Pairwise (·<=·))(h2:s.Perm l):s=qO l:=
 List.Perm.eq_of_pairwise (le:=(·<=·)) (fun a b _ _ h1 h2=>Int.le_antisymm h1 h2) h1 (J8 l) (h2.trans (zn l).symm)
theorem JR(Γ x h):AC Γ 271 [.int .i64 x] h (.bool false):=by refine az.drop ?_;exact xB [.tmp 2] Tryz.func271
theorem SU(Γ x y h):AC Γ 233 [.int .i64 x,.int .i64 y] h (.bool (decide (x<y))):=by refine az.drop ?_;refine cY [.tmp 4] Tryz.func233 ?_;exact qx (JR Γ x _)
attribute [go_sem] Ou Ov Ow aa_
theorem rL(l):eI (encI l)=encI l:=uL _ (fun _=>by rw[loose]) l
theorem pZ(n l):RB n (.sl (encI l) .free)=True:=eq_true (.qo fun r hr=>by obtain⟨i,_,rfl⟩:=List.mem_map.1 hr;exact .int _ _)
theorem lL(l):db 1 (encI l):=db.int l
attribute [go_sem] rL pZ
theorem xO(l)(k:Nat)(h):(encI l)[k]? =some (.int .i64 l[k]):=by simp[encI,h]
theorem ant(Γ l n h)(hl:l.length<=9223372036854775807):
  AC Γ 116 [.sl (encI l) .free,.int .i64 n] h (.bool (decide (n∈l))):=by
 refine az.drop ?_;refine cY [.tmp 4] Tryz.func116 ?_;refine oO (β:=Unit) l [0,1,5] (fun ae _=>[(0,.sl (encI l) .free),(1,.int .i64 n),(5,.int .i64 ae.length)])
  (fun _=>h) (fun ae _ _=>n∉ae) () ?_ rfl (by simp) Ty.mixed (by kernel_rfl) ?_ ?_
 .exact dL
 .rintro ae x r _ rfl hn;have vg:=tS hl;simp(disch:=omega) only[go_sem,seval,encI,List.length_map,List.map_append,List.map_cons,List.length_append];refine aJ.pos (by omega) ?_;simp(disch:=omega) only[go_sem,seval];refine aJ.intro (fun h1=>?_) (fun h1=>?_)<;>simp(disch:=omega) only[go_sem,seval]
  .simp[h1]
  .refine cd () ?_ ?_ rfl
   .simp[hn];omega
   .simp(disch:=omega) only[go_sem,seval,List.length_append]
 .rintro _ hn;simp(disch:=omega) only[go_sem,seval,encI,List.length_map];refine fE [] ?_;simp[hn]
mutual
def A2(W:Int->Bool):Gt->Bool
 | .mk p n l=>if 0<=p then W p else decide (n<=(qP W l:Int))
def qP(W:Int->Bool):List Gt->Nat
 |[]=>0
 |x::r=>(if A2 W x then 1 else 0)+qP W r
end
theorem abc(W a b):qP W (a++b)=qP W a+qP W b:=by
 induction a with
 |nil=>simp[qP]
 |cons x r ih=>simp only[List.cons_append,qP,ih];omega
theorem anu(W l):qP W l<=l.length:=by
 induction l with
 |nil=>simp[qP]
 |cons x r ih=>simp only[qP,List.length_cons];split<;>omega
mutual
theorem abd(W:Int->Bool):∀g:Gt,iM g=true->A2 W g=ie W g
 | .mk p n l,h=>by
  by_cases hp:0<=p
  .simp[A2,ie,hp]
  .simp only[iM,if_neg hp,Bool.and_eq_true,decide_eq_true_eq]at h;simp only[A2,ie,if_neg hp];exact TA W l n h.1.1.2 h.2
theorem TA(W:Int->Bool):∀(l:List Gt) (n:Int),1<=n->qM l=true->decide (n<=(qP W l:Int))=nw W l n
 |[],n,hn,_=>by rw[qP,nw];exact decide_eq_false (by simp;omega)
 |x::r,n,hn,h=>by
  simp only[qM,Bool.and_eq_true]at h;have h1:=abd W x h.1;simp only[qP,nw,h1];cases ie W x with
  |false=>simpa using TA W r n hn h.2
  |true=>
   simp only[if_true];by_cases h2:n-1=0
   .rw[if_pos h2];simp;omega
   .rw[if_neg h2,<-TA W r (n-1) (by omega) h.2];simp only[decide_eq_decide];omega
end
def eZ(g:Gt)(who:List Int):Bool:=(rZ g who).1
def mC(n:Int):List Int->List Int
 |[]=>[n]
 |y::r=>if y<n then y::mC n r else if y=n then y::r else n::y::r
theorem anv(n l):(mC n l).length<=l.length+1:=by
 induction l with
 |nil=>simp[mC]
 |cons y r ih=>simp only[mC];grind
theorem Ox(n:Int):∀(a b:List Int),(∀x∈a,x<n)->mC n (a++b)=a++mC n b
 |[],b,_=>rfl
 |x::a,b,h=>by simp only[List.cons_append,mC,if_pos (h x (by simp))];rw[Ox n a b fun y hy=>h y (by simp[hy])]
theorem abe(l k):(encI l).take k=encI (l.take k):=by simp[encI]
theorem abf(l k):(encI l).drop k=encI (l.drop k):=by simp[encI]
theorem TB(l m):encI l++encI m=encI (l++m):=(anq l m).symm
theorem Oy(l x):encI l++[.int .i64 x]=encI (l++[x]):=by simp[encI]
theorem TD(Γ l n h)(hl:l.length<=1000000):
  AC Γ 118 [.sl (encI l) .free,.int .i64 n] h (.sl (encI (mC n l)) .free):=by
 refine az.ji ?_;refine cY [.tmp 4] Tryz.func118 ?_;refine vU (α:=List Int×List Int) [0,1,5] (fun s=>[(0,.sl (encI l) .free),(1,.int .i64 n),(5,.int .i64 s.1.length)]) (fun _=>h) (fun s=>l=s.1++s.2/\∀x∈s.1,x<n) (fun s=>s.2.length) ([],l) ?_ rfl ⟨rfl,by simp⟩ Ty.mixed (by kernel_rfl) ?_
 .exact dL
 rintro⟨a,b⟩ ⟨rfl,ha⟩;simp only at ha|-;cases b with
 |nil=>
  have Js:a.length<=1000000:=by simpa using hl
  simp(disch:=omega) only[go_sem,seval,cc,List.append_nil];refine jL [0,1,5] ?_;simp(disch:=omega) only[go_sem,seval,cc];refine⟨lL _,by omega,?_⟩;rw[show(encI (a)).take a.length=encI a from by simp[abe]];refine yU (lL []) (lL _) (by simp[cc];omega) (by simp[cc];omega) ?_;simp(disch:=omega) only[go_sem,seval,List.nil_append,cc];refine yV (by simp(disch:=omega) only[go_sem,seval,Nat.zero_add,cc]) (lL _) (lL [n]) (by simp[cc];omega) (by simp[cc];omega) ?_;rw[Oy];simp(disch:=omega) only[go_sem,seval,cc];refine⟨lL _,by simp,?_⟩;rw[show(encI (a)).drop a.length=encI ([]:List Int)from by simp[abf]];refine yV (by simp(disch:=omega) only[go_sem,seval,List.length_append,List.length_cons,List.length_nil,cc]) (lL _) (lL _) (by simp[cc];omega) (by simp[cc];omega) ?_;rw[TB];simp(disch:=omega) only[go_sem,seval,cc];rw[show mC n a=mC n (a++[])from by simp,Ox n a _ ha];simp[mC]
 |cons y b=>
  have Js:a.length+1+b.length<=1000000:=by simp at hl;omega
  have e1:(encI (a++y::b))[a.length]? =some (.int .i64 y):=by simp[encI]
  simp(disch:=omega) only[go_sem,seval,cc,List.length_append,List.length_cons];refine aJ.pos (by omega) ?_;simp(disch:=omega) only[go_sem,seval,List.length_cons,e1];refine aJ.intro (fun h1=>?_) (fun h1=>?_)<;>simp(disch:=omega) only[go_sem,seval]
  .refine sJ (a++[y],b) (by simp) ⟨by simp,?_⟩ ?_ rfl
   .grind
   .simp(disch:=omega) only[go_sem,seval,List.length_append]
  .refine jL [0,1,5] ?_;simp(disch:=omega) only[go_sem,seval,cc,List.length_append,List.length_cons];refine aJ.pos (by omega) ?_;simp(disch:=omega) only[go_sem,seval,List.length_cons,e1];refine aJ.intro (fun h2=>?_) (fun h2=>?_)<;>simp(disch:=omega) only[go_sem,seval]
   .rw[Ox n a _ ha];simp[mC,h2]
   .refine⟨lL _,by simp[cc];omega,?_⟩;rw[show(encI (a++y::b)).take a.length=encI a from by simp[abe]];refine yU (lL []) (lL _) (by simp[cc];omega) (by simp[cc];omega) ?_;simp(disch:=omega) only[go_sem,seval,List.nil_append,cc];refine yV (by simp(disch:=omega) only[go_sem,seval,Nat.zero_add,cc]) (lL _) (lL [n]) (by simp[cc];omega) (by simp[cc];omega) ?_;rw[Oy];simp(disch:=omega) only[go_sem,seval,cc];refine⟨lL _,by simp;omega,?_⟩;rw[show(encI (a++y::b)).drop a.length=encI (y::b)from by simp[abf]];refine yV (by simp(disch:=omega) only[go_sem,seval,List.length_append,List.length_cons,List.length_nil,cc]) (lL _) (lL _) (by simp[cc];omega) (by simp[cc];omega) ?_;rw[TB];simp(disch:=omega) only[go_sem,seval,cc];rw[Ox n a _ ha];simp[mC,h1,h2]
mutual
def zo:List Int->Gt->List Int
 |out,.mk p _ l=>if 0<=p then mC p out else s6 out l
def s6:List Int->List Gt->List Int
 |out,[]=>out
 |out,x::r=>s6 (zo out x) r
end
theorem abg:∀(a b:List Gt) (out:List Int),s6 out (a++b)=s6 (s6 out a) b
 |[],_,_=>rfl
 |x::a,b,out=>by simp only[List.cons_append,s6];exact abg a b _
mutual
theorem abh:∀(g:Gt) (out:List Int),((zo out g).length:Int)<=out.length+js g
 | .mk p n l,out=>by
  have h1:=CF (.mk p n l);rw[zo];split
  .have:=anv p out;omega
  .have:=TE l out;rw[js];split
   .rename_i he;cases l with
    |nil=>simp[s6];omega
    |cons x r=>simp at he
   .exact this
theorem TE:∀(l:List Gt) (out:List Int),((s6 out l).length:Int)<=out.length+gF l
 |[],out=>by simp[s6,gF]
 |x::r,out=>by have h1:=abh x out;have h2:=TE r (zo out x);rw[s6,gF];omega
end
theorem abi(Γ:GG):∀(k:Nat) (g:Gt) (out:List Int) (h:AH),SizeOf.sizeOf g<k->Sh g->(out.length:Int)+js g<=1000000->
  AC Γ 54 [.sl (encI out) .free,bM g] h (.sl (encI (zo out g)) .free)
 |0,_,_,_,hk,_,_=>absurd hk (Nat.not_lt_zero _)
 |k+1,.mk p n l,out,h,cj,hs,hb=>by
  refine az.drop ?_;have hp:=CF (.mk p n l);refine cS [.tmp 4] Tryz.func54 ?_;simp only[iu];refine aU ?_;refine aJ.intro (fun h1=>?_) (fun h1=>?_)<;>simp(disch:=omega) only[go_sem,seval]
  .refine bL (TD Γ out p _ (by omega)) ?_;simp[zo,h1]
  have nN:=hs.len;have j7:=hs.mem;refine oO (β:=Unit) l [3,5,6] (fun ae _=>[(3,.ptr (some (h.length,0))),(5,.sl (encI (s6 out ae)) .free),(6,.int .i64 ae.length)])
   (fun _=>h++[cO.row [AV.int IntKind.i64 p,AV.int IntKind.i64 n,AV.sl (l.map bM) Own.free] 49]) (fun _ _ _=>True) () ?_ rfl trivial Ty.mixed (by kernel_rfl) ?_ ?_
  .refine aU ?_;simp[s6]
  .rintro ae x r _ rfl _;have vg:=tS nN;simp(disch:=omega) only[go_sem,seval,List.map_append,List.map_cons,List.length_append];refine bu (aJ.pos (by omega)) ?_;have e1:js (.mk p n (ae++x::r))=gF ae+(js x+gF r):=by
    rw[js];split
    .rename_i he;simp at he
    .have:∀a b:List Gt,gF (a++b)=gF a+gF b:=fun a b=>by
      induction a with
      |nil=>simp[gF]
      |cons y a ih=>simp only[List.cons_append,gF,ih];omega
     rw[this,gF]
   have e2:=TE ae out;have e3:=CG r;refine bL (abi Γ k x _ _ (CE (by simp) cj) (j7 x (by simp)) (by omega)) ?_;refine cd () trivial ?_ (by simp);simp(disch:=omega) only[go_sem,seval,List.length_append];rw[abg];simp[s6]
  .intro _ _;simp(disch:=omega) only[go_sem,seval,List.length_map];refine fE [5] ?_;simp[zo,h1]
def cm(g:Gt):List Int:=zo [] g
theorem anw{g}(h:js g<=1000):(cm g).length<=1000:=by have:=abh g [];simp at this;unfold cm;omega
theorem TF(Γ g h)(hs:Sh g)(hb:js g<=1000):
  AC Γ 19 [bM g] h (.sl (encI (cm g)) .free):=by
 refine az.drop ?_;refine cY [.tmp 2] Tryz.func19 ?_;refine bL (az.tP (abi Γ _ g [] _ (Nat.lt_succ_self _) hs (by simp;omega)) (by simp(disch:=omega) only[go_sem,seval,encI,List.map_nil])) ?_;rfl
def fi(g:Gt):Int:=if dp g=0 then(if 12<((cm g).length:Int)then 2 else 0)else dp g
theorem J9{g}(h:dp g=0):js g<=256:=by
 unfold dp at h;split at h
 .omega
 .rename_i hc;simp at hc;have:=Oq g 256 (by omega);omega
def oB(l out:List Int):List Int:=l.filter fun x=>!decide (x∈out)
structure FlS where
 l:List Int
 own:aS.Own
 j:AH
theorem abk(Γ l out h)(hl:l.length<=1000000)(ho:out.length<=1000000):
  AC Γ 51 [.sl (encI l) .free,.sl (encI out) .free] h (.sl (encI (oB l out)) .free):=by
 refine az.ji ?_;refine cY [.tmp 4] Tryz.func51 ?_;refine oO (β:=FlS) l [0,1,5,6] (fun ae s=>[(0,.sl (encI l) .free),(1,.sl (encI out) .free),(5,.sl (encI s.l) s.own),(6,.int .i64 ae.length)])
  (fun s=>h++s.j) (fun ae r s=>fX h s.j s.l.length s.own/\s.l=oB ae out) ⟨[],.full,[]⟩ ?_ (by simp) ⟨trivial,rfl⟩ Ty.mixed (by kernel_rfl) ?_ ?_
 .simp(disch:=omega) only[go_sem,seval,encI,List.map_nil]
 .rintro ae x r ⟨m,own,j⟩ rfl ⟨iG,hm⟩;simp only at iG hm|-;have vg:=tS hl;have Dj:m.length<=ae.length:=by rw[hm];exact List.length_filter_le _ _
  have e1:(encI (ae++x::r))[ae.length]? =some (.int .i64 x):=by simp[encI]
  simp(disch:=omega) only[go_sem,seval,cc,List.length_append,List.length_cons];refine aJ.pos (by omega) ?_;simp(disch:=omega) only[go_sem,seval,List.length_cons,e1];refine bL (ant Γ out x _ (by omega)) ?_;refine aJ.intro (fun h1=>?_) (fun h1=>?_)<;>simp(disch:=omega) only[go_sem,seval]
  .refine cd ⟨m,own,j⟩ ⟨iG,?_⟩ ?_ rfl
   .rw[hm];simp[oB,h1]
   .simp(disch:=omega) only[go_sem,seval,List.length_append]
  .simp(disch:=omega) only[go_sem,seval,List.length_cons,e1];refine pV (by rw[cc];exact iG) (lL _) (lL [x]) (by simp[cc];omega) (by simp[cc];omega) fun j' eY tY hg=>?_;rw[Oy];refine aU ?_;refine cd ⟨m++[x],eY,j'⟩ ⟨?_,?_⟩ ?_ rfl
   .simpa [cc]using tY
   .rw[hm];simp[oB,h1]
   .simp(disch:=omega) only[go_sem,seval,List.length_append]
 .rintro⟨m,own,j⟩ ⟨iG,hm⟩;simp only at hm;simp(disch:=omega) only[go_sem,seval,cc];refine fE [5] ?_;rw[hm]
theorem N_(Γ a b h)(hl:a.length<=1000000)(ho:b.length<=1000000):
  AC Γ 50 [.sl (encI a) .free,.sl (encI b) .free] h (.bool (decide (∀x∈a,x∈b))):=by
 refine az.drop ?_;refine cY [.tmp 4] Tryz.func50 ?_;refine az.cv (abk Γ a b _ hl ho) ?_;simp(disch:=omega) only[go_sem,seval,cc];congr 1;simp[oB]
def bD(l:List (List Int)):List AV:=l.map fun s=> .sl (encI s) .free
theorem anx(a b):bD (a++b)=bD a++bD b:=by simp[bD]
theorem jG(l):(bD l).length=l.length:=by simp[bD]
theorem J_(l):eI (bD l)=bD l:=uL _ (fun s=>by rw[loose,rL]) l
theorem wm(n l):RB n (.sl (bD l) .free)=True:=eq_true (.qo fun r hr=>by obtain⟨s,_,rfl⟩:=List.mem_map.1 hr;exact of_eq_true (pZ n s))
theorem anz(l):db 1 (bD l):=db.map (f:=fun s=>AV.sl (encI s) .free) (fun s=>⟨rfl,fun c hc=>by simp[AV.cells]at hc;subst hc;rfl⟩) l
attribute [go_sem] J_ wm
def r7:List Int->Nat->List (List Int)
 |_,0=>[[]]
 |[],_+1=>[]
 |x::r,k+1=>(r7 r k).map (x::·)++r7 r (k+1)
theorem EG:∀(l:List Int) (k:Nat) (s:List Int),s∈r7 l k->s.length=k
 |l,0,s,h=>by cases l<;>simp[r7]at h<;>simp[h]
 |[],k+1,s,h=>by simp[r7]at h
 |x::r,k+1,s,h=>by
  simp only[r7,List.mem_append,List.mem_map]at h;rcases h with⟨t,ht,rfl⟩|h
  .simp[EG r k t ht]
  .exact EG r (k+1) s h
def CI(l:List Int)(m:Nat):List (List Int):=(List.range m).flatMap (r7 l)
def A3(l:List Int):List (List Int):=CI l (l.length+1)
theorem xW(a b s):(bD (a++s::b))[a.length]? =some (.sl (encI s) .free):=by simp[bD]
theorem Kf{g}(h:fi g=0):dp g=0/\js g<=256/\(cm g).length<=12:=by
 unfold fi at h;split at h
 .rename_i hc;split at h
  .omega
  .exact⟨hc,J9 hc,by omega⟩
 .rename_i hc;exact absurd h hc
theorem anA{s:ByteArray}{k}(h:k<s.size):∃b,s[k]? =some b:=⟨s[k],by simp[h]⟩
theorem anB(Γ n h)(h0:0<=n)(h1:n<=200):az Tryz.prog Γ 237 [.int .u64 n] h fun v h'=>h'=h/\∃m,v= .int .i64 m:=by refine az.drop ?_;refine cY [.tmp 2] Tryz.func237 ?_;refine bu (aJ.neg (by omega)) ?_;refine bu (aJ.neg (by omega)) ?_;refine bu (aJ.neg (by omega)) ?_;rw[IntWalk.u8_in n ⟨h0,by omega⟩];refine Exists.imp (p:=fun b=>_=some b) (fun b hb=>⟨hb,_,rfl⟩) (anA ?_);exact Nat.lt_of_lt_of_le (m:=256) (by omega) (by decide+kernel)
theorem abl(Γ n h)(h0:0<=n)(h1:n<=200):az Tryz.prog Γ 190 [.int .u64 n] h fun v h'=>h'=h/\∃m,v= .int .i64 m:=by
 refine az.drop ?_;refine cY [.tmp 2] Tryz.func190 ?_;refine az.then (anB Γ n _ h0 h1) ?_
 rintro _ _ ⟨rfl,m,rfl⟩;refine aU ?_;exact⟨m,rfl⟩
def pD:Nat->List Int->List (Nat×AV×AV)
 |_,[]=>[]
 |i,n::r=>(i,.int .i64 n,.bool true)::pD (i+1) r
theorem anC(l r i):pD i (l++r)=pD i l++pD (i+l.length) r:=by
 induction l generalizing i with
 |nil=>simp[pD]
 |cons a l ih=>simp[pD,ih,Nat.add_assoc,Nat.add_comm 1]
theorem abm(p l i):(p∈l/\∃j e,kr (.int .i64 p) (pD i l)=some (some j)/\(pD i l)[j]? =some e/\e.2=(.int .i64 p,.bool true))\/(p∉l/\kr (.int .i64 p) (pD i l)=some none):=by
 induction l generalizing i with
 |nil=>exact .inr ⟨by simp,rfl⟩
 |cons a r ih=>
  by_cases ha:p=a
  .subst ha;exact .inl ⟨by simp,0,_,by simp[pD,kr],rfl,rfl⟩
  .rcases ih (i+1)with⟨h1,j,e,h2,h3,h4⟩|⟨h1,h2⟩
   .exact .inl ⟨by simp[h1],j+1,e,by simp[pD,kr,ha,h2],by simpa [pD]using h3,h4⟩
   .exact .inr ⟨by simp[ha,h1],by simp[pD,kr,ha,h2]⟩
def ub(n:Int)(ks:List Int):List Int:=if n∈ks then ks else ks++[n]
theorem anD(n ks):(kr (.int .i64 n) (pD 0 ks)).bind (sD (pD 0 ks) ks.length (.int .i64 n) (.bool true))=some (.map (pD 0 (ub n ks)) (ub n ks).length):=by
 rcases abm n ks 0 with⟨h1,j,e,h2,h3,h4⟩|⟨h1,h2⟩
 .rw[h2,ub,if_pos h1];obtain⟨e1,e2⟩:=e;simp only at h4;subst h4;simp only[Option.bind_some,sD,h3,Option.map_some];congr 2;apply List.ext_getElem?;grind
 .rw[h2,ub,if_neg h1];simp[sD,anC,pD]
mutual
def zp:List Int->Gt->List Int
 |ks,.mk p _ l=>zq (if 0<=p then ub p ks else ks) l
def zq:List Int->List Gt->List Int
 |ks,[]=>ks
 |ks,x::r=>zq (zp ks x) r
end
def EH(ks:List Int):cO:= .map (pD 0 ks) ks.length
def nx(b:Nat)(j:AH)(T:TypeId)(v:AV)(xs:List AV):Prop:=
 (v= .sl [] .full/\xs=[])\/∃q c pad,v= .ms (b+q) 0 xs.length c 1/\j[q]? =some (.row (xs++pad) T)/\c=xs.length+pad.length/\∀a∈pad,a.isAgg=false
theorem nx.more{b j T v xs}(h:nx b j T v xs)(k):nx b (j++k) T v xs:=by
 rcases h with h|⟨q,c,pad,h1,h2,h3⟩
 .exact .inl h
 .exact .inr ⟨q,c,pad,h1,by grind,h3⟩
theorem Oz(l):flat (encI l)=encI l:=by
 induction l with
 |nil=>rfl
 |cons x l ih=>
  have:flat (.int .i64 x::encI l)= .int .i64 x::flat (encI l):=rfl;rw[anr,this,ih]
theorem abn{xs pad ys}(h:xs.length+ys.length<=xs.length+pad.length):iU (xs++pad) (0+xs.length*1) ys=xs++ys++pad.drop ys.length:=by
 rw[Nat.zero_add,Nat.mul_one];rcases ys with _|⟨y,_|⟨z,ys⟩⟩
 .simp[iU]
 .cases pad with
  |nil=>exact absurd h (by simp)
  |cons p pad=>simp[iU]
 .simp[iU]
theorem anE{v x xs ys h j T by_ z Q}(hv:nx h.length j T v xs)(hs:qi x (h++j) ys)(hx:db 1 ys)(hf:flat ys=ys)(cV:ys≠[])
  (qj:xs.length+ys.length<=9223372036854775807)(nD:(xs.length+ys.length)*by_<=140737488355328)(H:∀v' j',nx h.length j' T v' (xs++ys)->j.length<=j'.length->Q v' (h++j')):uH (some (1,by_,z,T)) v x (h++j) Q:=by
 refine⟨ys,hs,hx,?_⟩;rcases hv with⟨rfl,rfl⟩|⟨q,c,pad,rfl,h2,h3,h4⟩
 .refine⟨by simpa using qj,by simpa using nD,fun e=>absurd e cV,fun _ c hc=>?_⟩;rw[hf,List.append_assoc];have:=H (.ms (h++j).length 0 ys.length c 1) (j++[.row (ys++List.replicate ((c-ys.length)*1) .top) T]) (.inr ⟨j.length,c,List.replicate (c-ys.length) .top,by simp,by simp,by simp;omega,fun a ha=>by rw[List.eq_of_mem_replicate ha];rfl⟩) (by simp);simpa using this
 .have hq:=(List.getElem?_eq_some_iff.1 h2).1;have hg:(h++j)[h.length+q]? =some (.row (xs++pad) T):=by rw[nK];exact h2
  refine⟨rfl,qj,nD,by omega,?_⟩;rw[hg];refine⟨by simp;omega,fun hle=>?_,fun dN c' qt=>?_⟩
  .have:=H (.ms (h.length+q) 0 (xs.length+ys.length) c 1) (j.set q (.row (xs++ys++pad.drop ys.length) T)) (.inr ⟨q,c,pad.drop ys.length,by simp,by simp[hq],by simp;omega,fun a ha=>h4 a (List.mem_of_mem_drop ha)⟩) (by simp);rw[mq,hf];rw[show iU (xs++pad) (0+xs.length*1) ys=xs++ys++pad.drop ys.length from abn (by omega)];exact this
  .have:=H (.ms (h++j).length 0 (xs.length+ys.length) c' 1) (j++[.row (xs++ys++List.replicate ((c'-(xs.length+ys.length))*1) .top) T]) (.inr ⟨j.length,c',List.replicate (c'-(xs.length+ys.length)) .top,by simp,by simp,by simp;omega,fun a ha=>by rw[List.eq_of_mem_replicate ha];rfl⟩) (by simp);rw[hf];simpa using this
theorem nx.shift{b k j T v xs}(h:nx (b+k.length) j T v xs):nx b (k++j) T v xs:=by
 rcases h with h|⟨q,c,pad,h1,h2,h3,h4⟩
 .exact .inl h
 .exact .inr ⟨k.length+q,c,pad,by rw[h1,Nat.add_assoc],by rw[nK];exact h2,h3,h4⟩
theorem nx.src{H j T v l}(h:nx H.length j T v (encI l)):qi v (H++j) (encI l):=by
 rcases h with⟨rfl,h2⟩|⟨q,c,pad,rfl,h2,h3,h4⟩
 .exact h2
 .refine⟨encI l++pad,T,by rw[nK];exact h2,rfl,by simp,fun x hx=>?_,by simp⟩;rw[List.drop_zero,List.take_left]at hx;obtain⟨n,_,rfl⟩:=List.mem_map.1 hx;rfl
theorem anF{v x xs ys h j T by_ z Q}(hv:nx h.length j T v xs)(hs:qi x (h++j) ys)(hx:db 1 ys)(hf:flat ys=ys)
  (qj:xs.length+ys.length<=9223372036854775807)(nD:(xs.length+ys.length)*by_<=140737488355328)(H:∀v' j',nx h.length j' T v' (xs++ys)->j.length<=j'.length->Q v' (h++j')):uH (some (1,by_,z,T)) v x (h++j) Q:=by
 by_cases cV:ys=[]
 .subst cV;have key:=H v j (by simpa using hv) (Nat.le_refl _);refine⟨[],hs,hx,?_⟩;rcases hv with⟨rfl,rfl⟩|⟨q,c,pad,rfl,h2,h3,h4⟩
  .grind
  .have hg:(h++j)[h.length+q]? =some (.row (xs++pad) T):=by rw[nK];exact h2
   refine⟨rfl,qj,nD,by omega,?_⟩;rw[hg];refine⟨by simp;omega,fun _=>?_,fun dN=>by simp at dN;omega⟩;rw[show iU (xs++pad) (0+xs.length*1) (flat [])=xs++pad from by rw[hf];simp[iU],ph hg];exact key
 .exact anE hv hs hx hf cV qj nD H
theorem az.anG{P Γ f args h}{R:AV->Prop}(H:az P Γ f args h fun v h'=>(∃l,h'=h++l)/\((RB h.length (loose v)/\R (loose v))\/∃q cs T,h'[h.length+q]? =some (.row cs T)/\RB h.length (loose (dd (h.length+q) cs v))/\R (loose (dd (h.length+q) cs v)))):
  az P Γ f args h fun v h'=>h'=h/\R v:=by
 refine az.ji ⟨H.1,fun G w vs hI hv=>(H.2 G w vs hI hv).mono fun e w' hr=>?_⟩;obtain⟨v,G',av,h',k1,k2,k3,k4,⟨l,rfl⟩,k5|⟨q,cs,T,e1,k5⟩⟩:=hr
 .exact⟨v,G',av,_,k1,k2,k3,k4,⟨l,rfl⟩,k5⟩
 .obtain⟨b,vals,q1,q2,q3⟩:=k3.freeze e1 (jM.set e1);exact⟨v,_,_,_,k1,k2.trans q1,q2,q3 _ _ k4,⟨l.set q .frozen,mq h l q .frozen⟩,k5⟩
theorem Kh{α:Type}(f){i cs}(hf:∀a,dd i cs (f a)=f a)(l:List α):fB i cs (l.map f)=l.map f:=by rw[pW,List.map_map];simp_all
theorem anH(i cs l):dd i cs (.tuple l)= .tuple (fB i cs l):=rfl
theorem anI(i cs k n):dd i cs (.int k n)= .int k n:=rfl
theorem TG(i cs l a):fB i cs (a::l)=dd i cs a::fB i cs l:=rfl
theorem abo(i cs):fB i cs []=[]:=rfl
theorem Kk(i cs l):fB i cs (encI l)=encI l:=Kh _ (fun _=>rfl) l
theorem anJ(i c l pad)(hc:l.length<=c)(hp:∀a∈pad,a.isAgg=false):dd i (encI l++pad) (.ms i 0 l.length c 1)= .sl (encI l) .free:=by
 rw[dd,if_pos,List.drop_zero,DS _ _ (by simp[cc]),List.take_append_of_le_length (by simp[cc]),<-cc l,List.take_length];refine⟨rfl,?_⟩;simp only[tQ,Bool.and_eq_true,decide_eq_true_eq,bne_iff_ne,List.all_eq_true,Bool.not_eq_true',List.length_append,cc];refine⟨⟨⟨by omega,hc⟩,by decide⟩,fun a ha=>?_⟩;rcases List.mem_append.1 ha with ha|ha
 .obtain⟨x,_,rfl⟩:=List.mem_map.1 ha;rfl
 .exact hp a ha
theorem anK(Γ o h):
  az Tryz.prog Γ 227 [.sl [] o,.int .i64 0,.int .i64 0] h fun v h'=>h'=h:=by
 refine cY [] Tryz.func227 ?_;refine vU (α:=Unit) [2,6] (fun s=>[(2,.int .i64 0),(6,.int .i64 1)]) (fun s=>h) (fun s=>True) (fun _=>0) () ?_ rfl trivial Ty.mixed (by kernel_rfl) ?_
 .exact dL
 rintro _ _;exact dL;first|(refine jL [] ?_;simp(disch:=omega) only[go_sem,seval])|skip
theorem anL(Γ o m h):
  az Tryz.prog Γ 189 [.sl [] o,.int .i64 0,.int .i64 0,.int .i64 m] h fun v h'=>h'=h:=by
 refine cY [] Tryz.func189 ?_;refine vU (α:=Unit) [0,1,2,3,8,9] (fun _=>[(0,.sl [] o),(1,.int .i64 0),(2,.int .i64 0),(3,.int .i64 m),(8,.bool true),(9,.bool true)])
  (fun _=>h) (fun _=>True) (fun _=>0) () ?_ rfl trivial Ty.mixed (by kernel_rfl) ?_
 .exact dL
 rintro _ _;refine aU ?_;refine az.then (anK Γ o _) ?_
 rintro _ _ rfl;exact dL
theorem anM(Γ o h):
  az Tryz.prog Γ 123 [.sl [] o] h fun v h'=>h'=h:=by
 refine cY [] Tryz.func123 ?_;rw[IntWalk.u64_in _ ⟨by omega,by omega⟩];refine az.then (abl Γ _ _ (by omega) (by omega)) ?_
 rintro _ _ ⟨rfl,m,rfl⟩;refine aU ?_;refine az.then (anL Γ o m _) ?_
 rintro _ _ rfl;exact dL
theorem Ko{P Γ h f fn c args rs R}(hf:P.funcs[f]? =some fn)(hb:fn.body=some c)(hn:(fn.name== "runtime.NumGoroutine")=false)
  (hN:Nat.ble args.length fn.ntmps=true)(hM:Nat.ble fn.ntmps 1000000=true)(fJ:fn.results=rs.toArray)(hm:P.follows .mixedOrders=true)(hc:gW fn.ntmps c=true)(H:fO P Γ fn.ntmps c (vQ P rs R) ((1000000,.tuple [])::nJ 0 args) h):az P Γ f args h R:=
 Ml hf hb hn hN fJ (bw.mark (by simpa [Nat.ble_eq]using hM) (tL hm c _ _ _ hc H))
theorem anN(Γ l x h)(hl:l.length<=9223372036854775807):
  az Tryz.prog Γ 126 [.sl (encI l) .free,.int .i64 x] h fun v h'=>h'=h/\∃m,v= .int .i64 m/\(0<=m<->x∈l):=by
 refine cY [.tmp 4] Tryz.func126 ?_;refine oO (β:=Unit) l [8,7,1,0] (fun ae _=>[(8,.int .i64 ae.length),(7,.int .i64 l.length),(1,.int .i64 x),(0,.sl (encI l) .free)])
   (fun b=>h) (fun ae rest b'=>x∈l<->x∈rest) () ?_ rfl Iff.rfl Ty.mixed (by kernel_rfl) ?_ ?_
 .simp(disch:=omega) only[go_sem,seval,cc]
 .rintro ae y r _ rfl hs;have vg:=tS hl;have e1:(encI (ae++y::r))[ae.length]? =some (.int .i64 y):=by simp[encI]
  simp(disch:=omega) only[go_sem,seval,List.length_append,List.length_cons];refine aJ.pos (by omega) ?_;simp(disch:=omega) only[go_sem,seval,List.length_cons,e1];refine aJ.intro (fun h1=>?_) (fun h1=>?_)<;>simp(disch:=omega) only[go_sem,seval]
  .grind
  .refine cd () ?_ ?_ rfl
   .rw[hs];simp[h1]
   .simp(disch:=omega) only[go_sem,seval,List.length_append]
 .intro _ hs;simp(disch:=omega) only[go_sem,seval];refine fE [0] ?_;grind
theorem TH(Γ l x h)(hl:l.length<=9223372036854775807):
  AC Γ 174 [.sl (encI l) .free,.int .i64 x] h (.bool (decide (x∈l))):=by
 refine cY [.tmp 4] Tryz.func174 ?_;refine az.then (anN Γ l x _ hl) ?_
 rintro _ _ ⟨rfl,m,rfl,hm⟩;refine aU ?_;simp[hm]
theorem abp(Γ l h)(hl:l.length<=1000000):
  az Tryz.prog Γ 224 [.sl (encI l) .free] h fun v h'=>∃j,h'=h++j/\nx h.length j 3 v (encI l):=by
 refine bu (Ko (rs:=[.tmp 2]) Tryz.func224 rfl rfl rfl rfl rfl Ty.mixed (by kernel_rfl)) ?_;refine X3 (fun h0=>?_) ?_<;>simp(disch:=omega) only[go_sem,seval]
 .exact⟨[],by simp,.inl ⟨rfl,h0⟩⟩
 refine⟨by omega,rfl,by simp,?_⟩;simp(disch:=omega) only[go_sem,seval,List.map_nil];refine⟨encI l,rfl,lL _,rfl,?_⟩;simp(disch:=omega) only[go_sem,seval,cc];refine⟨by omega,by omega,by simp,fun h0=>?_,fun h0 c hc=>?_⟩
 .have:l=[]:=List.eq_nil_of_length_eq_zero (by omega);subst this;exact⟨_,rfl,.inr ⟨0,0,[],rfl,rfl,rfl,by simp⟩⟩
 .refine⟨_,rfl,.inr ⟨1,c,List.replicate (c-l.length) .top,?_,?_,?_,fun a ha=>by rw[List.eq_of_mem_replicate ha];rfl⟩⟩
  .simp[cc]
  .simp[Oz]
  .simp[cc];omega
def CM:List Int->List (List Int)
 |[]=>[[]]
 |x::r=>(CM r).map (x::·)++CM r
theorem GR:∀(l:List Int) (k:Nat),(CM l).filter (fun s=>decide (s.length=k))=r7 l k
 |[],0=>rfl
 |[],k+1=>rfl
 |x::r,0=>by rw[CM,List.filter_append,GR r 0,List.filter_map];rw[show((fun s:List Int=>decide (s.length=0))∘fun s=>x::s)=fun _=>false from by funext s;simp];cases r<;>simp[r7]
 |x::r,k+1=>by rw[CM,List.filter_append,GR r (k+1),List.filter_map];rw[show((fun s:List Int=>decide (s.length=k+1))∘fun s=>x::s)=fun s=>decide (s.length=k)from by funext s;simp,GR r k,r7]
section
variable {P:Program} {F:Fence} {n:Nat} {b:Frame} {a:Act} {k:List Item} {cs:List Frame} {w:World}
theorem vi{c}:step P (lone (b.atR a (.code (.scope c)::k)) cs w)= .next (lone (b.atR a (.code c:: .inScope c::k)) cs w):=
 step_lone_go (by simp[stepG,stepG.exec,Frame.atR])
theorem T6{c}:step P (lone (b.atR a (.inScope c::k)) cs w)= .next (lone (b.atR a k) cs w):=
 step_lone_go (by simp[stepG,stepG.exec,Frame.atR])
theorem T7{c Q}(h:c.wpIn F n P (Exit.noGoto Q) a w):(Code.scope c).wpIn F n P Q a w:=by
 intro b k cs nn hb hr;have h0:(lone (b.atR a (.code (.scope c)::k)) cs w).fenced P F:=fenced_calm hb hr rfl;obtain⟨e,pR,pS,hq,nH⟩:=h b (.inScope c::k) cs nn hb hr;cases e with
 |normal=>exact⟨.normal,pR,pS,hq,.head h0 vi (StepsIn.trans nH (.one (fenced_calm hb hr rfl) T6))⟩
 |exit rE=>
  have hx:exitTo rE (.inScope c::k)=exitTo rE k:=by simp[exitTo]
  exact⟨.exit rE,pR,pS,hq,fun k' hk=> .head h0 vi (nH.1 k' (by rw[hx];exact hk)),
    fun n9 hk=>let⟨k₁,h1,h2⟩:=nH.2 n9 (by rw[hx];exact hk);⟨k₁,h1,.head h0 vi h2⟩⟩
 |goto l=>exact hq.elim
 |ret=>exact⟨_,pR,pS,hq,.of_steps (.one h0 vi) nH⟩
 |panic ch=>exact⟨_,pR,pS,hq,.of_steps (.one h0 vi) nH⟩
 |outgrown=>exact⟨_,pR,pS,hq,.of_steps (.one h0 vi) nH⟩
def aoE(Q:Exit->Tm->AH->Prop):Exit->Tm->AH->Prop
 | .goto _,_,_=>False
 |e,σ,h=>Q e σ h
theorem ab7{Γ N c Q σ h}(H:bw P Γ N c (aoE Q) σ h):bw P Γ N (.scope c) Q σ h:=fun r G w a hr hI ht=>by
 refine T7 (wpIn_mono (H r G w a hr hI ht) fun e a' w' hp=>?_);cases e with
 |goto l=>obtain⟨G',σ',h',Ds,h1,h2,h3,h4,h5,h6,h7⟩:=hp;exact h7.elim
 |_=>exact hp
end
theorem fdiv_pow(m k:Nat):((m:Int).fdiv (2^k))=((m/2^k:Nat):Int):=by grind
def ab8(g:Gt):List Int:=qO (zp [] g)
theorem ab9(p:Int):∀l:List Int,l.Pairwise (·<=·)->p∈l->mC p l=l
 |[],_,h=>by simp at h
 |y::r,hs,h=>by
  rw[List.pairwise_cons]at hs;rw[mC];split
  .rename_i h1
   have:p∈r:=by rcases List.mem_cons.1 h with h|h;· omega
                .exact h
   rw[ab9 p r hs.2 this]
  grind
theorem ab_(p:Int):∀l:List Int,p∉l->(mC p l).Perm (p::l)
 |[],_=> .refl _
 |y::r,h=>by
  rw[mC];split
  .exact((ab_ p r (fun e=>h (List.mem_cons_of_mem _ e))).cons y).trans (.swap p y r)
  grind
theorem aca(p b:Int)(hb:b<=p):∀l:List Int,(∀x∈l,b<=x)->∀x∈mC p l,b<=x
 |[],_,x,hx=>by simp[mC]at hx;omega
 |y::r,h,x,hx=>by
  rw[mC]at hx;split at hx
  .rcases List.mem_cons.1 hx with rfl|hx
   .exact h _ (by simp)
   .exact aca p b hb r (fun z hz=>h z (by simp[hz])) x hx
  grind
theorem acb(p:Int):∀l:List Int,l.Pairwise (·<=·)->(mC p l).Pairwise (·<=·)
 |[],_=>by simp[mC]
 |y::r,hs=>by
  have vI:=hs;rw[List.pairwise_cons]at hs;rw[mC];split
  .rename_i h1;rw[List.pairwise_cons];exact⟨aca p y (by omega) r hs.1,acb p r hs.2⟩
  .split
   .exact vI
   .rw[List.pairwise_cons];grind
theorem aoF(p ks):mC p (qO ks)=qO (ub p ks):=by
 unfold ub;split
 .rename_i h;exact ab9 p _ (J8 ks) ((zn ks).mem_iff.2 h)
 .rename_i h;refine abb (acb p _ (J8 ks)) ?_;refine(ab_ p _ (fun e=>h ((zn ks).mem_iff.1 e))).trans ?_;refine((zn ks).cons p).trans ?_;grind
mutual
theorem acd:∀(g:Gt) (ks:List Int),iM g=true->zo (qO ks) g=qO (zp ks g)
 | .mk p n l,ks,h=>by
  rw[zo,zp];split
  .rename_i hp;simp only[iM,if_pos hp,Bool.and_eq_true,List.isEmpty_iff]at h;rw[h.2,zq,aoF]
  .rename_i hp;simp only[iM,if_neg hp,Bool.and_eq_true]at h;exact ace l ks h.2
theorem ace:∀(l:List Gt) (ks:List Int),qM l=true->s6 (qO ks) l=qO (zq ks l)
 |[],_,_=>rfl
 |x::r,ks,h=>by simp only[qM,Bool.and_eq_true]at h;rw[s6,zq,acd x ks h.1,ace r _ h.2]
end
theorem acf{g}(h:iM g=true):ab8 g=cm g:=(acd g [] h).symm
structure Ex where
 g:Gt
 al:List Int
 a:List Int
 l:List Int
 b:List Int
 p:Bool
 q:Bool
 r:Bool
theorem OP:∀(l:List Int) (b:Int),fV b l=true<->l.Pairwise (·<·)/\∀x∈l,b<x/\x<64
 |[],b=>by simp[fV]
 |y::r,b=>by rw[fV,List.pairwise_cons];simp only[Bool.and_eq_true,decide_eq_true_eq,OP r y];grind
theorem T8{a b}(h:a.Sublist b)(hb:fV (-1) b=true):fV (-1) a=true:=by rw[OP]at hb|-;grind
theorem aoG{l}(p)(h:fV (-1) l=true):fV (-1) (l.filter p)=true:=T8 List.filter_sublist h
theorem KG:∀(b a:List Int),a.Pairwise (·<·)->b.Pairwise (·<·)->(∀x∈a,x∈b)->a.Sublist b
 |[],a,_,_,h=>by
  cases a with
  |nil=>exact .slnil
  |cons x a=>exact absurd (h x (by simp)) (by simp)
 |y::b,[],_,_,_=>List.nil_sublist _
 |y::b,x::a,ha,hb,h=>by
  have ha0:=ha;rw[List.pairwise_cons]at ha hb;by_cases vh:x=y
  .subst vh;refine .cons_cons _ (KG b a ha.2 hb.2 fun z hz=>?_);grind
  .refine .cons _ (KG b (x::a) ha0 hb.2 fun z hz=>?_);have Zy:x∈b:=by
    rcases List.mem_cons.1 (h x (by simp))with e|e
    .exact absurd e vh
    .exact e
   grind
theorem aoI{l}(h:fV (-1) l=true):l.Pairwise (·<·):=((OP l _).1 h).1
theorem T9{p n l}(hp:¬0<=p)(h:iM (.mk p n l)=true):1<=n/\qM l=true:=by simp only[iM,if_neg hp,Bool.and_eq_true,decide_eq_true_eq]at h;exact⟨h.1.1.2,h.2⟩
mutual
def r9(q:Int):Gt->Bool
 | .mk p _ l=>decide (0<=p/\p=q)||nV q l
def nV(q:Int):List Gt->Bool
 |[]=>false
 |x::r=>r9 q x||nV q r
end
mutual
theorem acg{W V:Int->Bool}:∀g:Gt,(∀p,r9 p g=true->W p=true->V p=true)->iM g=true->ie W g=true->ie V g=true
 | .mk p n l,h,hr,hw=>by
  by_cases hp:0<=p
  .rw[ie,if_pos hp]at hw|-;exact h p (by simp[r9,hp]) hw
  .obtain⟨k2,k4⟩:=T9 hp hr;rw[ie,if_neg hp]at hw|-;exact ach l n n (fun p hq=>h p (by simp[r9,hq])) k4 (Int.le_refl _) k2 hw
theorem ach{W V:Int->Bool}:∀(l:List Gt) (n m:Int),(∀p,nV p l=true->W p=true->V p=true)->qM l=true->m<=n->1<=m->nw W l n=true->nw V l m=true
 |[],n,m,_,_,_,_,hw=>by simp[nw]at hw
 |x::r,n,m,h,hr,qp,hm,hw=>by simp only[qM,Bool.and_eq_true]at hr;have hx:=acg x (fun p hp=>h p (by simp[nV,hp])) hr.1;have n9:=fun n m=>ach r n m (fun p hp=>h p (by simp[nV,hp])) hr.2;rw[nw]at hw|-;grind
end
theorem aci(n x ks):x∈ub n ks<->x∈ks\/x=n:=by unfold ub;grind
mutual
theorem mem_keys(x:Int):∀(g:Gt) (ks:List Int),x∈zp ks g<->x∈ks\/r9 x g=true
 | .mk p n l,ks=>by
  rw[zp,acj x l,r9];split
  .rename_i hp;rw[aci,eq_comm (a:=x)];simp[hp,or_assoc]
  .rename_i hp;simp[hp]
theorem acj(x:Int):∀(l:List Gt) (ks:List Int),x∈zq ks l<->x∈ks\/nV x l=true
 |[],ks=>by simp[zq,nV]
 |y::r,ks=>by rw[zq,acj x r,mem_keys x y,nV];simp[or_assoc]
end
theorem aoJ{n ks}(h:ks.Nodup):(ub n ks).Nodup:=by unfold ub;grind
mutual
theorem ack:∀(g:Gt) (ks:List Int),ks.Nodup->(zp ks g).Nodup
 | .mk p n l,ks,h=>by
  rw[zp];split
  .exact T_ l _ (aoJ h)
  .exact T_ l _ h
theorem T_:∀(l:List Gt) (ks:List Int),ks.Nodup->(zq ks l).Nodup
 |[],_,h=>h
 |x::r,ks,h=>by rw[zq];exact T_ r _ (ack x ks h)
end
mutual
theorem acm(x:Int):∀g:Gt,iM g=true->r9 x g=true->0<=x/\x<64
 | .mk p n l,hr,hi=>by
  by_cases hp:0<=p
  .simp only[iM,if_pos hp,Bool.and_eq_true,List.isEmpty_iff,decide_eq_true_eq]at hr;obtain⟨⟨h1,h2⟩,rfl⟩:=hr;simp[r9,nV]at hi;omega
  .obtain⟨k2,k4⟩:=T9 hp hr;simp only[r9,Bool.or_eq_true,decide_eq_true_eq]at hi;exact acn x l k4 (hi.resolve_left fun e=>hp e.1)
theorem acn(x:Int):∀l:List Gt,qM l=true->nV x l=true->0<=x/\x<64
 |[],_,hi=>by simp[nV]at hi
 |y::r,hr,hi=>by simp only[qM,Bool.and_eq_true]at hr;simp only[nV,Bool.or_eq_true]at hi;exact hi.elim (acm x y hr.1) (acn x r hr.2)
end
theorem OQ{g}(h:iM g=true)(x):x∈cm g<->r9 x g=true:=by rw[<-acf h];unfold ab8;rw[(zn _).mem_iff,mem_keys];simp
theorem OR{g}(h:iM g=true):fV (-1) (cm g)=true:=by
 rw[OP];constructor
 .rw[<-acf h];have h1:=J8 (zp [] g);have h2:(qO (zp [] g)).Nodup:=(zn _).nodup_iff.2 (ack g [] .nil);exact(h1.and h2).imp fun h=>by omega
 .intro x hx;have:=acm x g h ((OQ h x).1 hx);exact⟨by omega,this.2⟩
theorem KH{g s}(h:dp g=0)(hs:fV (-1) s=true):rZ g s=(eZ g s,0)/\eZ g s=ie (fun p=>decide (p∈s)) g:=by simp[eZ,rZ,h,hs]
theorem KI{g s t}(h:dp g=0)(hs:fV (-1) s=true)(ht:fV (-1) t=true)(fC:∀x∈cm g,x∈s->x∈t)(hp:eZ g s=true):eZ g t=true:=by have hr:=zm h;rw[(KH h hs).2]at hp;rw[(KH h ht).2];exact acg g (fun p hp h1=>by simp at h1|-;exact fC p ((OQ hr p).2 hp) h1) hr hp
theorem aco{g s t}(h:dp g=0)(hs:fV (-1) s=true)(ht:fV (-1) t=true)(fC:∀x∈cm g,x∈s<->x∈t):eZ g s=eZ g t:=by rw[Bool.eq_iff_iff];exact⟨KI h hs ht fun x hx=>(fC x hx).1,KI h ht hs fun x hx=>(fC x hx).2⟩
theorem GS:∀(l s:List Int),s∈CM l<->s.Sublist l
 |[],s=>by simp[CM]
 |x::r,s=>by
  rw[CM,List.mem_append,List.mem_map,List.sublist_cons_iff,GS r s];constructor
  .rintro(⟨t,ht,rfl⟩|h)
   .exact .inr ⟨t,rfl,(GS r t).1 ht⟩
   .exact .inl h
  .rintro(h|⟨t,rfl,ht⟩)
   .exact .inr h
   .exact .inl ⟨t,(GS r t).2 ht,rfl⟩
theorem Ua(l s):s∈A3 l<->s.Sublist l:=by
 unfold A3 CI;rw[List.mem_flatMap];constructor
 .rintro⟨k,hk,hs⟩;rw[<-GR,List.mem_filter]at hs;exact(GS l s).1 hs.1
 .intro h;refine⟨s.length,by grind,?_⟩;rw[<-GR,List.mem_filter];exact⟨(GS l s).2 h,by simp⟩
def r_:List Int->List Int->Bool
 |[],_=>false
 |_::_,[]=>false
 |x::a,y::b=>if x=y then r_ a b else decide (x<y)
theorem acp:∀a:List Int,r_ a a=false
 |[]=>rfl
 |x::a=>by rw[r_,if_pos rfl];exact acp a
theorem aoK:∀(l) (k) (s),s∈r7 l k->s.Sublist l:=fun l k s h=>by rw[<-GR,List.mem_filter]at h;exact(GS l s).1 h.1
theorem Ub:∀(l:List Int) (k:Nat),l.Pairwise (·<·)->(r7 l k).Pairwise fun a b=>r_ a b=true
 |l,0,_=>by cases l<;>simp[r7]
 |[],k+1,_=>by simp[r7]
 |x::r,k+1,h=>by
  rw[List.pairwise_cons]at h;rw[r7,List.pairwise_append];refine⟨?_,Ub r (k+1) h.2,?_⟩
  .rw[List.pairwise_map];exact(Ub r k h.2).imp fun {a b} nj=>by rw[r_,if_pos rfl];exact nj
  .intro a ha b hb;obtain⟨t,_,rfl⟩:=List.mem_map.1 ha;have h1:=EG r (k+1) b hb;have h2:=(aoK r (k+1) b hb).subset;cases b with
   |nil=>simp at h1
   |cons y b=>
    have:=h.1 y (h2 (by simp));rw[r_,if_neg (by omega)];simpa using this
theorem acq(l:List Int)(hl:l.Pairwise (·<·)):∀m,(CI l m).Pairwise fun a b=>a.length<=b.length/\(a.length=b.length->r_ a b=true)
 |0=>by simp[CI]
 |m+1=>by
  have e:CI l (m+1)=CI l m++r7 l m:=by simp[CI,List.range_succ]
  rw[e,List.pairwise_append];refine⟨acq l hl m,?_,?_⟩
  .refine(Ub l m hl).imp_of_mem fun {a b} ha hb nj=>?_;rw[EG l m a ha,EG l m b hb];exact⟨Nat.le_refl _,fun _=>nj⟩
  .intro a ha b hb;simp only[CI,List.mem_flatMap,List.mem_range]at ha;obtain⟨k,hk,ha⟩:=ha;rw[EG l k a ha,EG l m b hb];exact⟨by omega,fun e=>by omega⟩
theorem acr(x a b):x∈oB a b<->x∈a/\x∉b:=by simp[oB]
theorem acs{l}(o)(h:fV (-1) l=true):fV (-1) (oB l o)=true:=aoG _ h
@[go_sem] theorem aCj:(false==true)=false:=rfl
@[go_sem] theorem aCk:(true==false)=false:=rfl
def beforeF(a b:List Int):Bool:=if a.length=b.length then r_ a b else decide (a.length<b.length)
theorem O0(g):dp g=0<->A0 16 g=false/\js g<=256/\iM g=true:=by have h1:=Oq g 256 (by omega);unfold dp;grind
theorem UB(W:Int->Bool):∀(l:List Gt) (n:Int),1<=n->nw W l n=decide (n<=((l.filter (ie W)).length:Int))
 |[],n,h=>by rw[nw,eq_comm,decide_eq_false_iff_not,List.filter_nil,List.length_nil];omega
 |x::r,n,h=>by
  rw[nw];by_cases hx:ie W x=true
  .rw[if_pos hx,List.filter_cons_of_pos hx];by_cases hn:n-1=0
   .rw[if_pos hn];simp;omega
   .rw[if_neg hn,UB W r (n-1) (by omega)];rw[decide_eq_decide];simp;omega
  .rw[if_neg hx,List.filter_cons_of_neg hx,UB W r n h]
theorem UC(W){p n l}(hp:¬0<=p)(hn:1<=n):ie W (.mk p n l)=decide (n<=((l.filter (ie W)).length:Int)):=by rw[ie,if_neg hp,UB W l n hn]
end Go.Proofs.YtmfjlankeocaoaaGreatDoor.Fr
namespace Go.Proofs.YtmfjlankeocaoaaGreatDoor.Sx
open Go Go.Proofs Go.aS
theorem Kr(l:Tx)(a b):(⟨⟨l⟩⟩:ByteArray).extract a b=⟨⟨(l.drop a).take (b-a)⟩⟩:=by apply ByteArray.ext;simp_all
theorem abq(b):kO b=3<->oP b=true:=by
 unfold kO;cases h1:ns b
 .grind
 .simp only[if_true];constructor
  .intro h;cases h
  .intro h;rw[oP,decide_eq_true_eq]at h;rw[ns,decide_eq_true_eq]at h1;omega
theorem abr{s:Tx}(h:l8 s=true):s.length<=32:=by
 cases s with
 |nil=>cases h
 |cons b r=>
  rw[l8,Bool.and_eq_true,Bool.and_eq_true,decide_eq_true_eq]at h;exact h.1.1
theorem abt{c}(h:c=40\/c=41\/c=44\/c=59\/c=61):kO c=4:=by rcases h with rfl|rfl|rfl|rfl|rfl<;>decide+kernel
theorem abu(Γ t a h)(ht:rU t):
  AC Γ 77 [qF (t,a)] h (.bool true):=by
 refine az.drop ?_;refine cS [.tmp 2] Tryz.func77 ?_;rw[qF];cases ht with
 |nm hn=>
  simp(disch:=omega) only[go_sem,seval,bC];refine az.cv (Y1 Γ _ _ (by have:=abr hn;omega)) ?_;simp(disch:=omega) only[go_sem,seval,hn]
 |nb h0 h1=>
  simp(disch:=omega) only[go_sem,seval,fF,fK];refine bu (aJ.pos h0) ?_;rw[decide_eq_true h1]
 |sg hc=>
  simp(disch:=omega) only[go_sem,seval,bP,oQ];refine⟨_,by rw[Az];rfl,?_⟩;refine az.cv (D3 Γ _ _) ?_;simp(disch:=omega) only[go_sem,seval,abt hc]
theorem anO(Γ c)(r:Tx)(h)(hc:c≠47)(hl:r.length<=1000000):
  AC Γ 159 [.str ⟨⟨c::r⟩⟩,.str ⟨#[47,47]⟩] h (.bool false):=by
 refine az.drop ?_;refine cY [.tmp 4] Tryz.func159 ?_;have key:AC Γ 209 [.str ⟨⟨c::r⟩⟩,.str ⟨#[47,47]⟩] h (.bool false):=by refine az.drop ?_;refine cS [.tmp 4] Tryz.func209 ?_;simp(disch:=omega) only[go_sem,seval,oQ];refine aJ.intro (fun hh=>?_) (fun hh=>?_)<;>simp(disch:=omega) only[go_sem,seval];refine⟨by grind,?_⟩;simp(disch:=omega) only[go_sem,seval,Kr,fK,List.drop_zero];refine congrArg AV.bool (beq_eq_false_iff_ne.2 fun e=>?_);grind
 exact qx key
theorem anP(Γ i)(p w q:Tx)(src cs c3 h)(hs:src=p++(w++q))(hi:h[i]? =some (.row [.str ⟨⟨src⟩⟩,.int .i64 p.length,c3] 153))(hl:src.length<=1000000)(nB:cs.length<=1000000)
  (hw:∀b∈w,kO b∈cs)(hq:∀b∈q.head?,kO b∉cs):
  AC Γ 156 [.ptr (some (i,0)),.sl (encI cs) .free] h (.str ⟨⟨w⟩⟩):=by
 refine az.drop ?_;refine cS [.tmp 4] Tryz.func156 ?_;simp(disch:=omega) only[go_sem,seval,hi];refine d_ (β:=Unit) w [0,1,5] (fun ae _=>[(0,.ptr (some (i,0))),(1,.sl (encI cs) .free),(5,.int .i64 (p.length+ae.length))]) (fun _=>h) (fun _ _ _=>True) () ?_ rfl trivial ?_ ?_
 .simp(disch:=omega) only[go_sem,seval,List.length_nil,Int.add_zero]
 .rintro ae x r _ hd-;have hlen:src.length=p.length+(ae.length+1+r.length)+q.length:=by rw[hs,hd];simp;omega
  simp(disch:=omega) only[go_sem,seval,hi,oQ];refine aJ.pos (by omega) ?_;simp(disch:=omega) only[go_sem,seval,hi];refine⟨by omega,x,?_,?_⟩
  .rw[Az,show((p.length:Int)+ae.length).toNat=(p++ae).length by simp;omega,hs,hd];simp
  refine bL (D3 Γ x _) ?_;refine az.cv (Fr.TH Γ cs _ _ (by omega)) ?_;simp(disch:=omega) only[go_sem,seval,hw x (by rw[hd];simp)];refine cd () trivial ?_ rfl;simp(disch:=omega) only[go_sem,seval,List.length_append,Int.add_assoc]
 .rintro _-;have hlen:src.length=p.length+w.length+q.length:=by rw[hs];simp;omega
  have fin:(src.drop p.length).take w.length=w:=by rw[hs];simp
  simp(disch:=omega) only[go_sem,seval,hi,oQ];cases A4:q with
  |nil=>
   rw[A4]at hlen;simp only[List.length_nil]at hlen;refine bu (aJ.neg (by omega)) ?_;refine jL [0,5] ?_;simp(disch:=omega) only[go_sem,seval,hi,oQ,Kr];refine⟨by omega,by omega,?_⟩;rw[show((p.length:Int)+w.length).toNat-p.length=w.length by omega,fin]
  |cons y q'=>
   rw[A4]at hlen;simp only[List.length_cons]at hlen;refine aJ.pos (by omega) ?_;simp(disch:=omega) only[go_sem,seval,hi];refine⟨by omega,y,?_,?_⟩
   .rw[Az,show((p.length:Int)+w.length).toNat=(p++w).length by simp;omega,hs,A4,<-List.append_assoc];simp
   refine bL (D3 Γ y _) ?_;refine az.cv (Fr.TH Γ cs _ _ (by omega)) ?_;simp(disch:=omega) only[go_sem,seval,hq y (by rw[A4];rfl)];refine jL [0,5] ?_;simp(disch:=omega) only[go_sem,seval,hi,oQ,Kr];refine⟨by omega,by omega,?_⟩;rw[show((p.length:Int)+w.length).toNat-p.length=w.length by omega,fin]
theorem TI(Γ i)(p w q:Tx)(src cs c3 h)(hs:src=p++(w++q))(hi:h[i]? =some (.row [.str ⟨⟨src⟩⟩,.int .i64 p.length,c3] 153))(hl:src.length<=1000000)(nB:cs.length<=1000000)
  (hw:∀b∈w,kO b∈cs)(hq:∀b∈q.head?,kO b∉cs):
  AC Γ 156 [.ptr (some (i,0)),.sl (encI cs) .full] h (.str ⟨⟨w⟩⟩):=
 (anP Γ i p w q src cs c3 h hs hi hl nB hw hq).tP (by simp[eI,loose,rL])
def Sc(H0:AH)(src:Tx)(a:Int)(l:Ts)(h:AH):Prop:=
 h.take H0.length=H0/\H0.length<h.length/\∃own,h[H0.length]? =some (.row [.str ⟨⟨src⟩⟩,.int .i64 a,.sl (eR l) own] 153)/\(l=[]/\own= .full\/∃m,H0.length<m/\own= .bN m/\h[m]? =some (.bN l.length))
theorem TJ(Γ H0 src a l t)(s:Tx)(h)(hS:Sc H0 src a l h)(ht:rU t)(ha:0<=a/\a+s.length<=1000000)(hl:l.length<=1000000):
  az Tryz.prog Γ 157 [.ptr (some (H0.length,0)),.str ⟨⟨s⟩⟩,qF (t,0)] h fun v h'=>Sc H0 src (a+s.length) (l++[(t,a)]) h':=by
 obtain⟨e1,e2,own,e3,e4⟩:=hS;refine cS [] Tryz.func157 ?_;have he:qF (t,0)= .agg [.int .i64 t.k,.str ⟨⟨t.t⟩⟩,.int .i64 t.n,.int .i64 0]:=rfl;rw[he];have e5:∀x,(h++[x])[H0.length]? =some (.row [.str ⟨⟨src⟩⟩,.int .i64 a,.sl (eR l) own] 153):=fun x=>by grind
 refine aU ?_;have hv:=fun h=>abu Γ t 0 h ht;rw[qF]at hv;refine az.cv (hv _) ?_;simp(disch:=omega) only[go_sem,seval,e5];have fin:∀(X:AH) (m:Nat),X.take H0.length=H0->H0.length<X.length->X[H0.length]? =some (.row [.str ⟨⟨src⟩⟩,.int .i64 a,.sl (eR l) own] 153)->H0.length<m->X[m]? =some (.bN (l.length+1))->
   Sc H0 src (a+s.length) (l++[(t,a)]) (X.set H0.length (.row [.str ⟨⟨src⟩⟩,.int .i64 (a+s.length),.sl (eR l++[.agg [.int .i64 t.k,.str ⟨⟨t.t⟩⟩,.int .i64 t.n,.int .i64 a]]) (.bN m)] 153)):=fun X m f1 f2 f3 f4 f5=>by
  refine⟨by rw[List.take_set_of_le (Nat.le_refl _)];exact f1,by rw[List.length_set];exact f2,.bN m,?_,.inr ⟨m,f4,rfl,?_⟩⟩
  .rw[List.getElem?_set_self f2];simp[eR,qF]
  grind
 rcases e4 with⟨rfl,rfl⟩|⟨m,k1,rfl,k2⟩
 .refine yU (xR []) (xR [(t,a)]) (by simp[eR]) (by simp[eR]) ?_;have g1:(h++[.row [.int .i64 t.k,.str ⟨⟨t.t⟩⟩,.int .i64 t.n,.int .i64 a] 133]++[.bN 1]:AH).take H0.length=H0:=by rw[List.append_assoc,List.take_append_of_le_length (by omega)];exact e1
  have g2:=e5 (.row [.int .i64 t.k,.str ⟨⟨t.t⟩⟩,.int .i64 t.n,.int .i64 a] 133);simp only[Gq,List.nil_append,List.length_nil,List.length_singleton,Nat.zero_add];have g3:(h++[.row [.int .i64 t.k,.str ⟨⟨t.t⟩⟩,.int .i64 t.n,.int .i64 a] 133]++[.bN 1]:AH)[H0.length]? =some (.row [.str ⟨⟨src⟩⟩,.int .i64 a,.sl (eR []) .full] 153):=by rw[List.append_assoc,List.getElem?_append_left e2];exact e3
  have g4:(h++[.row [.int .i64 t.k,.str ⟨⟨t.t⟩⟩,.int .i64 t.n,.int .i64 a] 133]++[.bN 1]:AH)[h.length+1]? =some (.bN 1):=by simp
  have g0:H0.length<(h++[.row [.int .i64 t.k,.str ⟨⟨t.t⟩⟩,.int .i64 t.n,.int .i64 a] 133]++[.bN 1]:AH).length:=by simp;omega
  generalize hX:(h++[_]++[_]:AH)=X at g1 g3 g4 g0|-;have g5:∀r,(X.set H0.length r)[H0.length]? =some r:=fun r=>List.getElem?_set_self g0;have g6:=fin X (h.length+1) g1 g0 g3 (by omega) g4;simp only[Gq,List.nil_append]at g6;simp(disch:=omega) only[go_sem,seval,g3,g5,Gq,List.set_set,List.size_toArray];exact g6
 .have g1:((h++[.row [.int .i64 t.k,.str ⟨⟨t.t⟩⟩,.int .i64 t.n,.int .i64 a] 133]:AH).set m (.bN (l.length+1))).take H0.length=H0:=by rw[List.take_set_of_le (by omega),List.take_append_of_le_length (by omega)];exact e1
  have k3:m<h.length:=(List.getElem?_eq_some_iff.1 k2).1;have g3:((h++[.row [.int .i64 t.k,.str ⟨⟨t.t⟩⟩,.int .i64 t.n,.int .i64 a] 133]:AH).set m (.bN (l.length+1)))[H0.length]? =some (.row [.str ⟨⟨src⟩⟩,.int .i64 a,.sl (eR l) (.bN m)] 153):=by rw[List.getElem?_set_ne (by omega)];exact e5 _
  have g4:((h++[.row [.int .i64 t.k,.str ⟨⟨t.t⟩⟩,.int .i64 t.n,.int .i64 a] 133]:AH).set m (.bN (l.length+1)))[m]? =some (.bN (l.length+1)):=List.getElem?_set_self (by simp;omega);have g0:H0.length<((h++[.row [.int .i64 t.k,.str ⟨⟨t.t⟩⟩,.int .i64 t.n,.int .i64 a] 133]:AH).set m (.bN (l.length+1))).length:=by simp;omega
  refine yV (by rw[List.getElem?_append_left k3,k2,sX]) (xR l) (xR [(t,a)]) (by rw[sX,List.length_singleton];omega) (by rw[sX,List.length_singleton];omega) ?_;simp only[sX,List.length_singleton];generalize hX:List.set (h++[_]:AH) m _=X at g1 g3 g4 g0|-;have g5:∀r,(X.set H0.length r)[H0.length]? =some r:=fun r=>List.getElem?_set_self g0;have g6:=fin X m g1 g0 g3 k1 g4;simp(disch:=omega) only[go_sem,seval,g3,g5,List.set_set,List.size_toArray];exact g6
def abv(t:Tk):FuncId:=if t.k=1 then 92 else if t.k=2 then 93 else 94
theorem anQ{s:Tx}(h:l8 s=true):∀b∈s,kO b∈([2,3,5]:List Int):=by
 intro b hb;cases s with
 |nil=>cases h
 |cons c r=>
  rw[l8,Bool.and_eq_true]at h;have:=(Y0 b).2 (List.all_eq_true.1 h.2 b hb);simpa using this
theorem Sc.row{H0 src a l h}(hS:Sc H0 src a l h):∃own,h[H0.length]? =some (.row [.str ⟨⟨src⟩⟩,.int .i64 a,.sl (eR l) own] 153):=by obtain⟨_,_,own,e,_⟩:=hS;exact⟨own,e⟩
theorem Sc.app{H0 src a l h}(hS:Sc H0 src a l h)(j):Sc H0 src a l (h++j):=by obtain⟨e1,e2,own,e3,e4⟩:=hS;refine⟨by grind,by simp;omega,own,by grind,e4.imp id ?_⟩;grind
theorem Sc.move{H0 src a l h}(hS:Sc H0 src a l h)(b):∃own,h[H0.length]? =some (.row [.str ⟨⟨src⟩⟩,.int .i64 a,.sl (eR l) own] 153)/\Sc H0 src b l (h.set H0.length (.row [.str ⟨⟨src⟩⟩,.int .i64 b,.sl (eR l) own] 153)):=by obtain⟨e1,e2,own,e3,e4⟩:=hS;refine⟨own,e3,by rw[List.take_set_of_le (Nat.le_refl _)];exact e1,by rw[List.length_set];exact e2,own,List.getElem?_set_self e2,e4.imp id ?_⟩;grind
theorem anR(Γ H0 p s q l h)(hS:Sc H0 (p++(s++q)) p.length l h)(hn:l8 s=true)(hq:∀b∈q.head?,kO b∉([2,3,5]:List Int))(hl:(p++(s++q)).length<=1000000)(kV:l.length<=1000000):
  az Tryz.prog Γ 92 [.ptr (some (H0.length,0))] h fun v h'=>Sc H0 (p++(s++q)) (p.length+s.length) (l++[(bC s,(p.length:Int))]) h':=by
 obtain⟨own,e⟩:=hS.row;have GI:(p++(s++q)).length=p.length+(s.length+q.length):=by simp
 refine cY [] Tryz.func92 ?_;refine bL (TI Γ H0.length p s q _ [2,3,5] _ h rfl e hl (by decide) (anQ hn) hq) ?_;refine az.then (TJ Γ H0 _ p.length l (bC s) s h hS (.nm hn) (by omega) kV) ?_
 intro v h' hh;refine aU ?_;exact hh
theorem anS(Γ H0)(p q:Tx)(l h)(hS:Sc H0 (p++([32]++q)) p.length l h)(hq:∀b∈q.head?,kO b∉([1]:List Int))(hl:(p++([32]++q)).length<=1000000):
  az Tryz.prog Γ 91 [.ptr (some (H0.length,0))] h fun v h'=>Sc H0 (p++([32]++q)) (p.length+1) l h':=by
 obtain⟨own,e,hm⟩:=hS.move (p.length+1);have GI:(p++([32]++q)).length=p.length+(1+q.length):=by simp;omega
 refine cS [] Tryz.func91 ?_;simp(disch:=omega) only[go_sem,seval,e];refine gY.intro (fun j=>TI Γ H0.length p [32] q _ [1] (.sl (eR l) own) _ rfl (by grind) hl (by decide) (by decide+kernel) hq) ?_;simp(disch:=omega) only[go_sem,seval,e,oQ];exact hm
theorem anT(Γ)(gH:Γ 1=some powC/\Γ 1000002=some [])(H0 n p q l h)(h0:0<=n)(h1:n<=1099511627776)(hS:Sc H0 (p++(Lib.itoa n++q)) p.length l h)(hq:∀b∈q.head?,kO b∉([3]:List Int))(hl:(p++(Lib.itoa n++q)).length<=1000000)(kV:l.length<=1000000):
  az Tryz.prog Γ 93 [.ptr (some (H0.length,0))] h fun v h'=>Sc H0 (p++(Lib.itoa n++q)) (p.length+(Lib.itoa n).length) (l++[(fF n,(p.length:Int))]) h':=by
 obtain⟨own,e⟩:=hS.row;obtain⟨a1,a2,a3,a4⟩:=Ti h0 h1;have GI:(p++(Lib.itoa n++q)).length=p.length+((Lib.itoa n).length+q.length):=by simp
 refine cY [] Tryz.func93 ?_;refine bL (TI Γ H0.length p (Lib.itoa n) q _ [3] _ h rfl e hl (by decide) (fun b hb=>by simpa using(abq b).2 (a3 b hb)) hq) ?_;refine bL (al_ Γ _ n h a2 a1) ?_;refine az.cv (aay Γ gH n h h0 (by omega)) ?_;simp(disch:=omega) only[go_sem,seval,fK];refine az.then (TJ Γ H0 _ p.length l (fF n) _ h hS (.nb h0 h1) (by omega) kV) ?_
 intro v h' hh;refine aU ?_;exact hh
theorem anU(Γ H0)(p:Tx)(c q l h)(hc:c=40\/c=41\/c=44\/c=59\/c=61)(hS:Sc H0 (p++([c]++q)) p.length l h)(hl:(p++([c]++q)).length<=1000000)(kV:l.length<=1000000):
  az Tryz.prog Γ 94 [.ptr (some (H0.length,0))] h fun v h'=>Sc H0 (p++([c]++q)) (p.length+1) (l++[(bP c,(p.length:Int))]) h':=by
 obtain⟨own,e⟩:=hS.row;have GI:(p++([c]++q)).length=p.length+(1+q.length):=by simp;omega
 refine cS [] Tryz.func94 ?_;have ec:c≠47:=by grind
 have e2:(⟨⟨p++([c]++q)⟩⟩:ByteArray).extract p.length (p++([c]++q)).length=⟨⟨c::q⟩⟩:=by rw[Kr];simp
 have e3:(⟨⟨p++([c]++q)⟩⟩:ByteArray).extract p.length (p.length+1)=⟨⟨[c]⟩⟩:=by rw[Kr];simp
 simp only[List.singleton_append]at e e2 e3 hS hl GI|-;simp(disch:=omega) only[go_sem,seval,e,oQ,e2];refine⟨by omega,gY.intro (fun j=>anO Γ c q _ ec (by omega)) ?_⟩;simp(disch:=omega) only[go_sem,seval,e,oQ];rw[show((p.length:Int)+1).toNat=p.length+1 by omega,e3];refine⟨by omega,by omega,az.then (TJ Γ H0 _ p.length l (bP c) [c] h hS (.sg hc) (by simp;omega) kV) ?_⟩;intro v h' hh;refine aU ?_;exact hh
end Go.Proofs.YtmfjlankeocaoaaGreatDoor.Sx
namespace Go.aS
open Go Go.RowKit
theorem anV{P Γ σ h}(b l ts K d t ty pos after rest):
  lP P Γ K ({dst:=t,op:= .call {callee:= .builtin b,args:=l,argTypes:=ts},type:=ty,pos:=pos,after:=after,guard:=none}::rest) d σ h=eW P Γ (.call {callee:= .builtin b,args:=l,argTypes:=ts}) (Cp P Γ K rest d t) σ h:=(rfl)
theorem anW{P Γ h fn R6 id1 id AK Ku ops t x c args rs R}(B f0)(hf:P.funcs[f0]? =some fn)
  (hb:fn.body=some (.seq (.region R6 AK.toArray false) (.seq (.seq (.region id1 Ku.toArray false) (.cond t x .skip)) (.seq (.region id ops.toArray false) c))))(hn:(fn.name== "runtime.NumGoroutine")=false)
  (hN:Nat.ble args.length fn.ntmps=true)(fJ:fn.results=rs.toArray)(AL:mi fn.ntmps AK.toArray=true)(EI:mi fn.ntmps Ku.toArray=true)(hd:mi fn.ntmps ops.toArray=true)(hc:gW fn.ntmps c=true)
  (H:lP P Γ (fun d σ h=>d=none/\lP P Γ (fun d σ h=>d=none/\ev Γ σ t= .bool false/\lP P Γ (fun d σ h=>∃g xs,d=some (g,xs)/\jP P Γ f0 B fn.ntmps c (AJ P Γ rs R g xs) σ h) ops none σ h) Ku none σ h) AK none (nJ 0 args) h):az P Γ f0 args h R:=by
 have dst:∀{o:List Oper},mi fn.ntmps o.toArray=true->∀i∈List.range o.toArray.size,∀p,o.toArray[i]? =some p->∀x,p.dst=some x->x<fn.ntmps:=fun hd i _ o ho x hx=>by have:=List.all_eq_true.1 hd o (by simpa using Array.mem_of_getElem? ho);simp_all
 refine⟨fun vs w=>xb hf hb hn vs w,fun G w vs hI hv=>?_⟩;refine(w7 (r:=none) (n:=0)).1 (RZ hf hb (F7 (D5 (wpIn_region ?_))));refine Nt (N:=fn.ntmps) (G0:=G) (K:=fun d σ h=>d=none/\lP P Γ (fun d σ h=>d=none/\ev Γ σ t= .bool false/\lP P Γ (fun d σ h=>∃g xs,d=some (g,xs)/\jP P Γ f0 B fn.ntmps c (AJ P Γ rs R g xs) σ h) ops none σ h) Ku none σ h) (fun d G1 uD h1 a1 w1 q1 q2 q3 q4 q5=>?_) (List.range AK.toArray.size) none _ h G w _ (dst AL) (Gh.le.refl G) hI (FJ hv (Nat.le_of_ble_eq_true hN)) rfl (by rw[Dz];exact H);obtain⟨rfl,q5⟩:=q5;refine F7 (F7 (D5 (wpIn_region ?_)));refine Nt (N:=fn.ntmps) (G0:=G) (K:=fun d σ h=>d=none/\ev Γ σ t= .bool false/\lP P Γ (fun d σ h=>∃g xs,d=some (g,xs)/\jP P Γ f0 B fn.ntmps c (AJ P Γ rs R g xs) σ h) ops none σ h) (fun d G2 As h2 a2 w2 r1 r2 r3 r4 r5=>?_) (List.range Ku.toArray.size) none _ h1 G1 w1 _ (dst EI) q1 q2 q3 q4 (by rw[Dz];exact q5);obtain⟨rfl,r5,r6⟩:=r5;have TK:=oH r2 r3 t;rw[r5]at TK;have YY:a2.eval t= .bool false:=by generalize a2.eval t=vc at TK;cases TK;rfl
 refine Y_ YY (D5 (wpIn_skip ?_));exact Zk fJ hd hc r6 r1 r2 r3 r4
end Go.aS
namespace Go.Proofs.YtmfjlankeocaoaaGreatDoor.Sx
open Go Go.Proofs Go.aS
theorem anY(Γ a b c h):nR Tryz.prog Γ 89 [.ptr (some (a,0)),.ptr (some (b,0)),.ptr (some (c,0))] h none fun h'=>h'=h:=by refine F9 none (fun q e=>by cases e) Tryz.func89 rfl rfl rfl rfl rfl Ty.mixed (by kernel_rfl) (by kernel_rfl) ?_;rw[xK];exact dL
theorem abw(t)(ht:rU t):∃(b:UInt8) (w:Tx) (c:Nat),wT t=b::w/\kO b=c/\(c=2\/c=3\/c=4)/\∀Γ,(Γ 1=some powC/\Γ 1000002=some [])->∀(H0) (src p q) (l) (h),src=p++(wT t++q)->(q=[]\/∃r,q=32::r)->Sc H0 src p.length l h->src.length<=1000000->l.length<=1000000->
  az Tryz.prog Γ (if c=2 then 92 else if c=3 then 93 else 94) [.ptr (some (H0.length,0))] h fun v h'=>Sc H0 src (p.length+(wT t).length) (l++[(t,(p.length:Int))]) h':=by
 have c32:kO 32=1:=by decide+kernel
 have rW:∀(q:Tx) (cs:List Int),(1:Int)∉cs->(q=[]\/∃r,q=32::r)->∀b∈q.head?,kO b∉cs:=by
  rintro q cs h1 (rfl|⟨r,rfl⟩) b hb
  .cases hb
  grind
 cases ht with
 | @nm s hn=>
  cases s with
  |nil=>cases hn
  |cons b w=>
   have hb:ns b=true:=by rw[l8,Bool.and_eq_true,Bool.and_eq_true]at hn;exact hn.1.2
   refine⟨b,w,2,by simp[wT,bC],(RP b).2 hb,.inl rfl,fun Γ gH H0 src p q l h e hq hS hl kV=>?_⟩;subst e;have ew:wT (bC (b::w))=b::w:=by simp[wT,bC]
   rw[ew]at hS hl|-;exact anR Γ H0 p (b::w) q l h hS hn (rW q _ (by decide) hq) hl kV
 | @nb n h0 h1=>
  obtain⟨a1,a2,a3,a4⟩:=Ti h0 h1;have ew:wT (fF n)=Lib.itoa n:=by simp[wT,fF]
  cases e0:Lib.itoa n with
  |nil=>exact absurd e0 a4
  |cons b w=>
   refine⟨b,w,3,by rw[ew,e0],(abq b).2 (a3 b (by rw[e0];simp)),.inr (.inl rfl),fun Γ gH H0 src p q l h e hq hS hl kV=>?_⟩;subst e;rw[ew]at hS hl|-;exact anT Γ gH H0 n p q l h h0 h1 hS (rW q _ (by decide) hq) hl kV
 | @sg c hc=>
  have ew:wT (bP c)=[c]:=by simp[wT,bP]
  refine⟨c,[],4,ew,abt hc,.inr (.inr rfl),fun Γ gH H0 src p q l h e hq hS hl kV=>?_⟩;subst e;rw[ew]at hS hl|-;exact anU Γ H0 p c q l h hc hS hl kV
structure TL where
 p:Tx
 sp:Bool
 r:List Tk
 tk:Ts
 H:AH
def qL(s:TL):Tx:=if s.sp then 32::ir s.r else ir s.r
def LxI(H0:AH)(src:Tx)(l:List Tk)(s:TL):Prop:=
 src=s.p++qL s/\(s.sp=true->s.r≠[])/\(∀t∈s.r,rU t)/\s.tk++va (s.p.length+if s.sp then 1 else 0) s.r=va 0 l/\Sc H0 src s.p.length s.tk s.H
theorem TM:∀(l:List Tk) (a:Int),(va a l).length=l.length
 |[],_=>rfl
 |x::r,a=>by rw[va,List.length_cons,TM r,List.length_cons]
theorem TN(Γ)(gH:Γ 1=some powC/\Γ 1000002=some [])(l h)(eD:∀t∈l,rU t)(hl:(ir l).length<=65536)(kV:l.length<=1000000):
  AC Γ 32 [.str ⟨⟨ir l⟩⟩] h (.tuple [.sl (eR (va 0 l)) .free,.int .i64 0,.int .i64 0]):=by
 refine az.ji ?_;refine anW (rs:=[.cell 2 71,.cell 3 3,.cell 4 31]) (h.length+3) 32 Tryz.func32 rfl rfl rfl rfl (by kernel_rfl) (by kernel_rfl) (by kernel_rfl) (by kernel_rfl) ?_;simp(disch:=omega) only[go_sem,seval,anV,oQ];refine⟨by rw[decide_eq_false (by omega)],?_⟩;obtain⟨H0,lU⟩:∃H0:AH,H0=h++[.row [.sl [] .full] 71,.row [.int .i64 0] 3,.row [.int .i64 0] 31,.row [.func 90 [] [],.func 91 [] [],.func 92 [] [],.func 93 [] [],.func 94 [] [],.func 90 [] []] 150]:=⟨_,rfl⟩;have OA:H0.length=h.length+4:=by rw[lU];simp
 have g:∀(H:AH) (k:Nat),H.take H0.length=H0->k<4->H[h.length+k]? =H0[h.length+k]? :=fun H k e hk=>by
  conv=>rhs;rw[<-e]
  rw[List.getElem?_take,if_pos (by omega)]
 have c32:kO 32=1:=by decide+kernel
 refine ee.of (vU (α:=TL) [0,2,3,4,5,6] (fun _=>[(0,.str ⟨⟨ir l⟩⟩),(2,.ptr (some (h.length,0))),(3,.ptr (some (h.length+1,0))),(4,.ptr (some (h.length+2,0))),(5,.ptr (some (h.length+3,0))),(6,.ptr (some (h.length+4,0)))]) (fun s=>s.H) (LxI H0 (ir l) l) (fun s=>2*s.r.length+if s.sp then 1 else 0) ⟨[],false,l,[],H0++[.row [.str ⟨⟨ir l⟩⟩,.int .i64 0,.sl [] .full] 153]⟩ ?_ ?_ ?_ Ty.mixed (by kernel_rfl) fun s hI=>?_)
 .exact dL
 .rw[lU];simp
 .refine⟨rfl,?_,eD,?_,?_⟩
  .intro e;cases e
  .rfl
  .exact⟨by simp,by simp,.full,by simp[Gq],.inl ⟨rfl,rfl⟩⟩
 .obtain⟨p,sp,r,tk,H⟩:=s;obtain⟨i1,i2,i3,i4,i5⟩:=hI;simp only at i1 i2 i3 i4 i5|-;obtain⟨own,e5⟩:=i5.row;rw[OA]at e5;have e3:H[h.length+3]? =some (.row [.func 90 [] [],.func 91 [] [],.func 92 [] [],.func 93 [] [],.func 94 [] [],.func 90 [] []] 150):=by rw[g H 3 i5.1 (by decide),lU];simp
  have ko:(ir l).length=p.length+(qL ⟨p,sp,r,tk,H⟩).length:=by rw[i1];simp
  simp(disch:=omega) only[go_sem,seval,e5,oQ];cases sp with
  |true=>
   cases r with
   |nil=>exact absurd rfl (i2 rfl)
   |cons t r=>
    have ht:=i3 t (by simp);obtain⟨b,w,c,k1,k2,k3,-⟩:=abw t ht;obtain⟨z,hz⟩:∃z,ir (t::r)=b::z:=by
     cases r with
     |nil=>exact⟨w,by rw[Tl,k1]⟩
     |cons y r=>exact⟨w++32::ir (y::r),by rw[Tj,k1];rfl⟩
    have xX:ir l=p++([32]++ir (t::r)):=i1;have GI:(ir l).length=p.length+(1+(ir (t::r)).length):=by rw[xX];simp;omega
    refine aJ.pos (by omega) ?_;simp(disch:=omega) only[go_sem,seval,e5];refine⟨32,by rw[Az,xX];simp,?_⟩;refine az.cv (D3 Γ 32 _) ?_;rw[c32];simp(disch:=omega) only[go_sem,seval,e3];rw[xX]at i5;have key:=anS Γ H0 p (ir (t::r)) tk H i5 (fun b' Ag=>by grind) (by rw[<-xX];omega);rw[OA,<-xX]at key;refine az.then key ?_
    intro v h' hh;refine aU ?_;refine sJ ⟨p++[32],false,t::r,tk,h'⟩ (by simp) ⟨by rw[xX];simp[qL],(fun e=>by cases e),i3,?_,?_⟩ ?_ rfl
    .simpa using i4
    .simpa using hh
    .rfl
  |false=>
   cases r with
   |nil=>
    have hq:qL ⟨p,false,[],tk,H⟩=[]:=rfl;rw[hq]at ko;refine bu (aJ.neg (by simp at ko;omega)) ?_;refine ee.keep [2,3,4,6] (pq (B:=h.length+3) _ _ _ _ (by kernel_rfl) ?_);obtain⟨T,rfl⟩:∃T,H=h++ .row [.sl [] .full] 71:: .row [.int .i64 0] 3:: .row [.int .i64 0] 31::T:=⟨(H.drop (h.length+3)),by
     have e:=i5.1;conv=>lhs;rw[<-List.take_append_drop (h.length+3) H]
     have e':H.take (h.length+3)=H0.take (h.length+3):=by grind
     rw[e',lU,List.take_append,List.take_of_length_le (by omega),show h.length+3-h.length=3 by omega];simp⟩
    have e6:T[1]? =some (.row [.str ⟨⟨ir l⟩⟩,.int .i64 p.length,.sl (eR tk) own] 153):=by rw[<-e5];simp[List.getElem?_append_right]
    simp(disch:=omega) only[go_sem,seval,e6];refine lR (anY Γ _ _ _ _) ?_;rintro _ rfl;refine aU ?_;have:tk=va 0 l:=by simpa [va]using i4
    subst this;rw[Tg];refine⟨.qo fun r hr=>?_,rfl⟩;obtain⟨x,-,rfl⟩:=List.mem_map.1 hr;exact .Al (bB.cons (.int _ _) (bB.cons (.str _) (bB.cons (.int _ _) (bB.cons (.int _ _) (bB.nil _)))))
   |cons t r=>
    have ht:=i3 t (by simp);obtain⟨b,w,c,k1,k2,k3,k4⟩:=abw t ht;obtain⟨q,hq,hz⟩:∃q,ir (t::r)=wT t++q/\(q=[]\/∃z,q=32::z)/\q=(if r=[]then[]else 32::ir r):=by
     cases r with
     |nil=>exact⟨[],by rw[Tl];simp,.inl rfl,rfl⟩
     |cons y r=>exact⟨32::ir (y::r),by rw[Tj],.inr ⟨_,rfl⟩,by simp⟩
    have xX:ir l=p++(wT t++q):=by rw[<-hq];exact i1
    have GI:(ir l).length=p.length+((wT t).length+q.length):=by rw[xX];simp
    have mT:(wT t).length=w.length+1:=by rw[k1];rfl
    have CC:tk.length+(r.length+1)=l.length:=by have:=congrArg List.length i4;simpa [TM]using this
    refine aJ.pos (by omega) ?_;simp(disch:=omega) only[go_sem,seval,e5];refine⟨b,by rw[Az,xX,k1];simp,?_⟩;refine az.cv (D3 Γ b _) ?_;rw[k2];have key:=k4 Γ gH H0 (ir l) p q tk H xX hz.1 i5 (by omega) (by omega);rw[OA]at key;have fin:∀h',Sc H0 (ir l) (p.length+(wT t).length) (tk++[(t,(p.length:Int))]) h'->LxI H0 (ir l) l ⟨p++wT t,!r.isEmpty,r,tk++[(t,(p.length:Int))],h'⟩:=fun h' hh=>by
     refine⟨?_,?_,fun x hx=>i3 x (by simp[hx]),?_,?_⟩
     .rw[xX,hz.2,qL];cases r<;>simp[ir,Lib.join]
     .grind
     .rw[<-i4];cases r with
      |nil=>simp[va]
      |cons y r=>simp[va]
     .simpa using hh
    have hμ:(2*r.length+if(!r.isEmpty)=true then 1 else 0)<2*(r.length+1)+if(false:Bool)=true then 1 else 0:=by split<;>simp<;>omega
    rcases k3 with rfl|rfl|rfl;all_goals
     simp only[if_true,Nat.reduceEqDiff,if_false]at key;simp(disch:=omega) only[go_sem,seval,e3];refine az.then key ?_
     intro v h' hh;simp(disch:=omega) only[go_sem,seval];exact sJ ⟨p++wT t,!r.isEmpty,r,tk++[(t,(p.length:Int))],h'⟩ hμ (fin h' hh) rfl rfl
end Go.Proofs.YtmfjlankeocaoaaGreatDoor.Sx
namespace Go.aS
open Go Go.RowKit
theorem GM(z v t t' K)(h:t'≠t):qk (some z) (.iface t' v) t true K=K (.tuple [z,.bool false]):=by simp[qk,h]
end Go.aS
namespace Go.Proofs.YtmfjlankeocaoaaGreatDoor.Sx
open Go Go.Proofs Go.aS
def z0(l:List Tk):Ts:=l.map fun t=>(t,0)
theorem GN(a):(z0 a).length=a.length:=by simp[z0]
def Wr(i:Nat)(l:List Tk)(h:AH):Prop:=∃own,h[i]? =some (.row [.sl (eR (z0 l)) own] 73)/\(l=[]/\own= .full\/∃m,i<m/\own= .bN m/\h[m]? =some (.bN l.length))
def Fw(i:Nat)(h h':AH):Prop:=h.length<=h'.length/\∀k o,h[k]? =some o->(k<i\/(i<k/\∀n,o≠ .bN n))->h'[k]? =some o
theorem Fw.refl(i h):Fw i h h:=⟨Nat.le_refl _,fun _ _ e _=>e⟩
theorem Fw.trans{i a b c}(x:Fw i a b)(y:Fw i b c):Fw i a c:=⟨Nat.le_trans x.1 y.1,fun k o e h=>y.2 k o (x.2 k o e h) h⟩
theorem Fw.app(i h j):Fw i h (h++j):=⟨by simp,fun _ _ e _=>eP _ e⟩
theorem Fw.aom(i h o):Fw i h (h.set i o):=⟨by simp,fun k ob e hk=>by grind⟩
theorem Fw.aon{i m n n' h}(hm:i<m)(e:h[m]? =some (.bN n)):Fw i h (h.set m (.bN n')):=⟨by simp,fun k ob ek hk=>by grind⟩
theorem Wr.app{i l h}(W:Wr i l h)(j):Wr i l (h++j):=by obtain⟨own,e,hm⟩:=W;refine⟨own,eP _ e,hm.imp id ?_⟩;grind
theorem OJ{i l h own}(W:Wr i l h)(e:h[i]? =some (.row [.sl (eR (z0 l)) own] 73))(hl:l.length<=1000000)(t){C}
  (H:∀eY h',Fw i h h'->h'[i]? =some (.row [.sl (eR (z0 l)) own] 73)->(∃m,i<m/\eY= .bN m/\h'[m]? =some (.bN (l.length+1)))->C (.sl (eR (z0 (l++[t]))) eY) h'):pU (some (4,40)) (.sl (eR (z0 l)) own) (.sl [qF (t,0)] .full) h C:=by
 obtain⟨aCi,e2,hm⟩:=W;rw[e]at e2;cases e2;have hi:=(List.getElem?_eq_some_iff.1 e).1;have ez:eR (z0 l)++[qF (t,0)]=eR (z0 (l++[t])):=by simp[eR,z0]
 rcases hm with⟨rfl,rfl⟩|⟨m,k1,rfl,k2⟩
 .refine yU (xR _) (xR [(t,0)]) (by simp[z0,eR]) (by simp[z0,eR]) ?_;rw[ez];refine H _ _ (Fw.app _ _ _) (eP _ e) ⟨h.length,hi,rfl,?_⟩;simp[z0,eR]
 .have dN:=(List.getElem?_eq_some_iff.1 k2).1;refine yV (by rw[sX,GN];exact k2) (xR _) (xR [(t,0)]) (by rw[sX,GN,List.length_singleton];omega) (by rw[sX,GN,List.length_singleton];omega) ?_;rw[ez,sX,GN,List.length_singleton];exact H _ _ (Fw.aon k1 k2) (by grind) ⟨m,k1,rfl,List.getElem?_set_self dN⟩
theorem aoo{i l}{h:AH}{own}(hi:i<h.length)(hm:∃m,i<m/\own= .bN m/\h[m]? =some (.bN l.length)):Wr i l (h.set i (.row [.sl (eR (z0 l)) own] 73)):=by obtain⟨m,a,b,c⟩:=hm;exact⟨own,List.getElem?_set_self hi,.inr ⟨m,a,b,by grind⟩⟩
theorem OK:wY Tryz.prog 9=some (.str ⟨#[]⟩):=by kernel_rfl
theorem TV:wY Tryz.prog 130=some (.str ⟨#[]⟩):=by kernel_rfl
theorem abI:wY Tryz.prog 3=some (.int .i64 0):=by kernel_rfl
theorem aoq:wY Tryz.prog 26=some (.agg [.int .i64 0,.int .i64 0,.int .i64 0,.str ⟨#[]⟩,.sl [] .full]):=by kernel_rfl
theorem aor(z v K):qk (some z) (.iface 130 v) 9 true K=K (.tuple [z,.bool false]):=GM z v _ _ K (by decide)
theorem aos(z v K):qk (some z) (.iface 3 v) 9 true K=K (.tuple [z,.bool false]):=GM z v _ _ K (by decide)
theorem aot(z v K):qk (some z) (.iface 3 v) 130 true K=K (.tuple [z,.bool false]):=GM z v _ _ K (by decide)
theorem aou(z v K):qk (some z) (.iface 26 v) 9 true K=K (.tuple [z,.bool false]):=GM z v _ _ K (by decide)
theorem aov(z v K):qk (some z) (.iface 26 v) 130 true K=K (.tuple [z,.bool false]):=GM z v _ _ K (by decide)
theorem aow(z v K):qk (some z) (.iface 26 v) 3 true K=K (.tuple [z,.bool false]):=GM z v _ _ K (by decide)
inductive U where
 |w (s:Tx)
 |nm (s:Tx)
 |n (n:Int)
 |x (x:Ex)
def wq:U->AV
 | .w s=> .iface 9 (.str ⟨⟨s⟩⟩)
 | .nm s=> .iface 130 (.str ⟨⟨s⟩⟩)
 | .n n=> .iface 3 (.int .i64 n)
 | .x x=> .iface 26 (aK x)
def uc(l:List U):List AV:=l.map wq
def CL:U->List Tk
 | .w s=>[if 0<=iK zg s then bC s else⟨3,s,0⟩]
 | .nm s=>[bC s]
 | .n n=>[fF n]
 | .x x=>gd x
def jn(l:List U):List Tk:=l.flatMap CL
def WC(Γ:GG)(x:Ex):Prop:=∀(i:Nat) (l:List Tk) (h:AH),Wr i l h->(l++gd x).length<=1000000->az Tryz.prog Γ 141 [.ptr (some (i,0)),aK x] h fun _ h'=>Wr i (l++gd x) h'/\Fw i h h'
theorem TD(Γ us)(hx:∀x,U.x x∈us->WC Γ x)(i l h)(W:Wr i l h)(hl:(l++jn us).length<=1000000)(TW:us.length<=1000):
  az Tryz.prog Γ 75 [.ptr (some (i,0)),.sl (uc us) .free] h fun _ h'=>Wr i (l++jn us) h'/\Fw i h h':=by
 have hlen:(uc us).length=us.length:=by simp[uc]
 refine cS [] Tryz.func75 ?_;simp(disch:=omega) only[go_sem,seval,hlen];refine d_ (β:=AH) us [0,11,12,13] (fun ae _=>[(0,.ptr (some (i,0))),(11,.sl (uc us) .free),(12,.int .i64 us.length),(13,.int .i64 ae.length)]) (fun b=>b) (fun ae _ b=>Wr i (l++jn ae) b/\Fw i h b) h ?_ rfl ⟨by simpa [jn]using W,Fw.refl _ _⟩ ?_ ?_
 .simp(disch:=omega) only[go_sem,seval,List.length_nil]
 .rintro ae u r H hd ⟨hW,hF⟩;have hn:us.length=ae.length+1+r.length:=by rw[hd];simp;omega
  have e1:(uc us)[ae.length]? =some (wq u):=by rw[hd];exact fZ ..
  have jk:jn (ae++[u])=jn ae++CL u:=by simp[jn]
  have kV:(l++jn ae).length+(CL u).length<=1000000:=by
   have:jn us=jn ae++(CL u++jn r):=by rw[hd];simp[jn]
   rw[this]at hl;simp at hl|-;omega
  simp(disch:=omega) only[go_sem,seval];refine aJ.pos (by omega) ?_;obtain⟨own,ew,-⟩:=id hW;have OM:(l++jn ae).length<=1000000:=by omega
  have fin:∀t:Tk,CL u=[t]->∀eY h',Fw i H h'->h'[i]? =some (.row [.sl (eR (z0 (l++jn ae))) own] 73)->(∃m,i<m/\eY= .bN m/\h'[m]? =some (.bN ((l++jn ae).length+1)))->Wr i (l++jn (ae++[u])) (h'.set i (.row [.sl (eR (z0 ((l++jn ae)++[t]))) eY] 73))/\Fw i h (h'.set i (.row [.sl (eR (z0 ((l++jn ae)++[t]))) eY] 73)):=fun t et eY h' f1 f2 f3=>by rw[jk,et,<-List.append_assoc];exact⟨aoo (List.getElem?_eq_some_iff.1 f2).1 (by grind),(hF.trans f1).trans (Fw.aom _ _ _)⟩
  cases u with
  |w s=>
   rw[wq]at e1;simp(disch:=omega) only[go_sem,seval,e1,OK];refine bL (aaG Γ _) ?_;refine bL (R9 Γ zg s _ (by decide)) ?_;refine aJ.intro (fun hc=>?_) (fun hc=>?_)<;>simp(disch:=omega) only[go_sem,seval,ew]
   .refine OJ hW ew OM (bC s) fun eY h' f1 f2 f3=>?_;simp(disch:=omega) only[go_sem,seval,f2];refine cd _ (fin (bC s) (by rw[CL,if_pos hc]) eY h' f1 f2 f3) ?_ rfl;simp(disch:=omega) only[go_sem,seval,List.length_append]
   .refine OJ hW ew OM ⟨3,s,0⟩ fun eY h' f1 f2 f3=>?_;simp(disch:=omega) only[go_sem,seval,f2];refine cd _ (fin ⟨3,s,0⟩ (by rw[CL,if_neg hc]) eY h' f1 f2 f3) ?_ rfl;simp(disch:=omega) only[go_sem,seval,List.length_append]
  |nm s=>
   rw[wq]at e1;simp(disch:=omega) only[go_sem,seval,e1,ew,OK,TV,aor];refine OJ hW ew OM (bC s) fun eY h' f1 f2 f3=>?_;simp(disch:=omega) only[go_sem,seval,f2];refine cd _ (fin (bC s) rfl eY h' f1 f2 f3) ?_ rfl;simp(disch:=omega) only[go_sem,seval,List.length_append]
  |n n=>
   rw[wq]at e1;simp(disch:=omega) only[go_sem,seval,e1,ew,OK,TV,abI,aos,aot];refine OJ hW ew OM (fF n) fun eY h' f1 f2 f3=>?_;simp(disch:=omega) only[go_sem,seval,f2];refine cd _ (fin (fF n) rfl eY h' f1 f2 f3) ?_ rfl;simp(disch:=omega) only[go_sem,seval,List.length_append]
  |x x=>
   rw[wq,dM]at e1;have cw:=fun j=>hx x (by rw[hd];simp) i (l++jn ae) (H++j) (hW.app j) (by simp only[List.length_append]at kV|-;exact kV);rw[dM]at cw;simp(disch:=omega) only[go_sem,seval,e1,OK,TV,abI,aoq,aou,aov,aow];refine az.then (cw _) ?_
   rintro v h' ⟨w1,w2⟩;refine aU ?_;refine cd h' ⟨?_,(hF.trans (Fw.app _ _ _)).trans w2⟩ ?_ rfl
   .rw[jk,<-List.append_assoc];exact w1
   .simp(disch:=omega) only[go_sem,seval,List.length_append]
 .rintro H ⟨hW,hF⟩;simp(disch:=omega) only[go_sem,seval];exact⟨hW,hF⟩
end Go.Proofs.YtmfjlankeocaoaaGreatDoor.Sx
namespace Go.Proofs.YtmfjlankeocaoaaGreatDoor.Sx
open Go Go.Proofs Go.aS
def xY(p:iq):List AV:=zk p.name oW oW oW (.int .i64 0) (.int .i64 0) (.int .i64 0) (.str ⟨⟨[]⟩⟩) oW 0
theorem an0:∀a<5,∀b<5,a≠b->(kW.getD a []==kW.getD b [])=false:=by decide+kernel
theorem an1:∀b<5,(([59]:Tx)==kW.getD b [])=false:=by decide+kernel
theorem an2(Γ p)(hn:pz p.name=true)(hm:1<=p.mode/\p.mode<=4)(h i en)(hi:i<h.length)(a1 a2 a3 a4 a5 a6)(m:Ts)(hl:m.length<=900000):
  az Tryz.prog Γ 81 [.ptr (some (i,0))] (Hp h i en wj ((bC wh,a1)::(bC p.name,a2)::(bP 59,a3)::(bC u9,a4)::(bC (kW.getD p.mode.toNat []),a5)::(bP 59,a6)::m)) fun v h'=>h'=Hp h i en (rY p) m/\v= .tuple []:=by
 obtain⟨M,hM⟩:∃M:Nat,p.mode=M:=⟨p.mode.toNat,by omega⟩;have OB:mA wj:=CB qJ qJ qJ;have hpA:mA (xY p):=CB qJ qJ qJ;have AZ:mA (rY p):=CB qJ qJ qJ;have eM:p.mode.toNat=M:=by omega
 rw[eM];obtain⟨q6,OC⟩:∃q6:Ts,q6=(bP 59,a6)::m:=⟨_,rfl⟩;have l6:q6.length=m.length+1:=by rw[OC];simp
 rw[<-OC];have w0:=fun pc ws l r a b c=>rV Γ hi en pc ws l r [] a b c;simp only[List.append_nil]at w0;have n0:=fun pc s a l b c=>J1 Γ hi en pc s a l [] b c;simp only[List.append_nil]at n0;have t0:=fun pc x l s b c=>N8 Γ hi en pc x l s [] b c;simp only[List.append_nil]at t0;have t1:=fun pc l s b c=>takeN Γ hi en pc l s [] b c;simp only[List.append_nil]at t1;obtain⟨q3,vd⟩:∃q3:Ts,q3=(bP 59,a3)::(bC u9,a4)::(bC (kW.getD M []),a5)::q6:=⟨_,rfl⟩;have l3:q3.length=q6.length+3:=by rw[vd];simp
 rw[<-vd];have g1:(Hp h i en wj q3)[i]? =some (.row [.sl (eR (q3)) .free,.int .i64 en,.str ⟨⟨[]⟩⟩,.sl [] .full,.sl [] .full,.sl [] .full,.int .i64 0,.int .i64 0,.int .i64 0,.str ⟨⟨[]⟩⟩,.sl [] .full,.int .i64 0] 142):=by have:=p9 hi en wj q3 [];rwa [List.append_nil]at this
 have g2:(Hp h i en wj q3).set i (.row [.sl (eR (q3)) .free,.int .i64 en,.str ⟨⟨p.name⟩⟩,.sl [] .full,.sl [] .full,.sl [] .full,.int .i64 0,.int .i64 0,.int .i64 0,.str ⟨⟨[]⟩⟩,.sl [] .full,.int .i64 0] 142)=Hp h i en (xY p) q3:=by have:=Gy h i en wj (xY p) q3 q3 [] hi;rwa [List.append_nil,List.append_nil]at this
 have g3:(Hp h i en (xY p) q6)[i]? =some (.row [.sl (eR (q6)) .free,.int .i64 en,.str ⟨⟨p.name⟩⟩,.sl [] .full,.sl [] .full,.sl [] .full,.int .i64 0,.int .i64 0,.int .i64 0,.str ⟨⟨[]⟩⟩,.sl [] .full,.int .i64 0] 142):=by have:=p9 hi en (xY p) q6 [];rwa [List.append_nil]at this
 have g4:(Hp h i en (xY p) q6).set i (.row [.sl (eR (q6)) .free,.int .i64 en,.str ⟨⟨p.name⟩⟩,.sl [] .full,.sl [] .full,.sl [] .full,.int .i64 0,.int .i64 0,.int .i64 0,.str ⟨⟨[]⟩⟩,.sl [] .full,.int .i64 p.mode] 142)=Hp h i en (rY p) q6:=by have:=Gy h i en (xY p) (rY p) q6 q6 [] hi;rwa [List.append_nil,List.append_nil]at this
 have g5:(Hp h i en (rY p) q6)[i]? =some (.row [.sl (eR (q6)) .free,.int .i64 en,.str ⟨⟨p.name⟩⟩,.sl [] .full,.sl [] .full,.sl [] .full,.int .i64 0,.int .i64 0,.int .i64 0,.str ⟨⟨[]⟩⟩,.sl [] .full,.int .i64 p.mode] 142):=by have:=p9 hi en (rY p) q6 [];rwa [List.append_nil]at this
 refine cY [] Tryz.func81 ?_;refine bu (az.eT (w0 wj [wh] ((bC wh,a1)::(bC p.name,a2)::q3) ((bC p.name,a2)::q3) (by simp;omega) ⟨_,_,rfl,rfl,rfl⟩ (by decide))) ?_;refine az.eT (n0 wj p.name a2 q3 (by omega) hn) ?_;simp(disch:=omega) only[go_sem,seval,g1,g2];rw[vd];refine bu (az.eT (w0 (xY p) [[59],u9] ((bP 59,a3)::(bC u9,a4)::(bC (kW.getD M []),a5)::q6) ((bC (kW.getD M []),a5)::q6) (by simp;omega) ⟨_,_,rfl,rfl,_,_,rfl,rfl,rfl⟩ (by decide))) ?_;refine az.cv (aaR Γ _) ?_;simp(disch:=omega) only[go_sem,seval,kA];refine d_ (β:=Bool) kW [0,16,17,18] (fun ae _=>[(0,.ptr (some (i,0))),(16,.sl (bq kW) .free),(17,.int .i64 5),(18,.int .i64 ae.length)]) (fun b=>if b=true then Hp h i en (rY p) q6 else Hp h i en (xY p) ((bC (kW.getD M []),a5)::q6)) (fun ae _ b=>b=decide (M<ae.length)) false ?_ (by simp) (by simp) ?_ ?_
 .simp(disch:=omega) only[go_sem,seval,List.length_nil];rfl
 .rintro ae x r b hd rfl;have hlen:5=ae.length+1+r.length:=by have:=congrArg List.length hd;simp at this;simp[kW]at this;omega
  have hx:x=kW.getD ae.length []:=by rw[hd];simp
  have e1:(bq kW)[ae.length]? =some (.str ⟨⟨x⟩⟩):=by rw[hd];exact yY ae r x
  refine aU ?_;refine aJ.pos (by omega) ?_;simp(disch:=omega) only[go_sem,seval,e1];by_cases hz:ae.length=0
  .refine bu (aJ.neg (by omega)) ?_;refine cd false (by simp;omega) ?_ ?_
   .simp(disch:=omega) only[go_sem,seval,List.length_append]
   .rw[decide_eq_false (by omega)]
  .refine bu (aJ.pos (by omega)) ?_;by_cases dN:M<ae.length
   .rw[decide_eq_true dN,if_pos rfl];refine az.cv (t1 (rY p) q6 x (by omega) ?_) ?_
    .rw[OC,hx];have:=an1 ae.length (by omega);simp only[ln,bP,this,Bool.and_false]
    refine aU ?_;refine cd true ?_ ?_ rfl
    .rw[decide_eq_true (by simp;omega)]
    .simp(disch:=omega) only[go_sem,seval,List.length_append]
   .rw[decide_eq_false dN,if_neg (by decide)];by_cases he:M=ae.length
    .refine az.eT (t0 (xY p) (bC (kW.getD M []),a5) q6 x (by omega) ?_) ?_
     .rw[hx,<-he];simp[ln,bC]
     rw[hM]at g4;rw[he]at g4;simp(disch:=omega) only[go_sem,seval,g3,g4];refine cd true ?_ ?_ rfl
     .rw[decide_eq_true (by simp;omega)]
     .simp(disch:=omega) only[go_sem,seval,List.length_append]
    .refine az.cv (t1 (xY p) ((bC (kW.getD M []),a5)::q6) x (by simp;omega) ?_) ?_
     .rw[hx];have:=an0 M (by omega) ae.length (by omega) he;simp only[ln,bC,this,Bool.and_false]
     refine aU ?_;refine cd false ?_ ?_ rfl
     .rw[decide_eq_false (by simp;omega)]
     .simp(disch:=omega) only[go_sem,seval,List.length_append]
 .rintro b rfl;rw[decide_eq_true (show M<kW.length by show M<5;omega),if_pos rfl];simp(disch:=omega) only[go_sem,seval,show kW.length=5 from rfl];refine jL [0] ?_;simp(disch:=omega) only[go_sem,seval,g5];refine bu (aJ.neg (by omega)) ?_;rw[OC];exact Jg (az.eT (w0 (rY p) [[59]] ((bP 59,a6)::m) m (by simp;omega) ⟨_,_,rfl,rfl,rfl⟩ (by decide)))
end Go.Proofs.YtmfjlankeocaoaaGreatDoor.Sx
namespace Go.aS
open Go Go.RowKit
theorem an4{P Γ h g fn id o ops c args R}(p)(hp:∀q,p=some q->kD q.1=some q.2)(hf:P.funcs[g]? =some fn)(hb:fn.body=some (.seq (.region id (o::ops).toArray false) c))(hn:(fn.name== "runtime.NumGoroutine")=false)
  (hN:Nat.ble args.length fn.ntmps=true)(fJ:fn.results= #[])(hd:mi fn.ntmps (o::ops).toArray=true)(ho:isRec o=true)
  (H:AG P Γ (fun σ h=>bw P Γ fn.ntmps c (fun e _ h=>(e= .ret\/e= .normal)/\R h) σ h) ops (put o.dst (xK p) (nJ 0 args)) h):
  nR P Γ g args h (p.map (·.2)) R:=by
 refine⟨fun vs w=>xb hf hb hn vs w,fun G w vs hI hv=>Zj hf hb fJ fun c0 cs sQ=>?_⟩;have ht:=FJ (N:=fn.ntmps) hv (Nat.le_of_ble_eq_true hN);have kx:∀(i:Nat) (o':Oper),(o::ops).toArray[i]? =some o'->∀x,o'.dst=some x->x<fn.ntmps:=fun i o' iG x hx=>by have:=List.all_eq_true.1 hd o' (by grind);simp_all
 simp only[isRec,Bool.and_eq_true,Option.isNone_iff_eq_none]at ho;obtain⟨hg,tI⟩:=ho;refine wpSIn_seq (wpSIn_region ?_);obtain⟨c1,kz⟩:∃c1:Frame,c1={c0 with mode:=D7 (p.map (·.2))}:=⟨_,rfl⟩;rw[<-kz];have R4:List.range (o::ops).toArray.size=0::(List.range ops.length).map (·+1):=by simp[List.range_succ_eq_map]
 rw[R4,wpOpsSIn];have h0:(o::ops).toArray[0]? =some o:=by simp
 rw[h0];refine⟨fun _ _=>trivial,?_⟩;have hw:∀y,Region.wanted o y=true:=fun y=>by unfold Region.wanted;rw[hg]
 simp only[hw,if_true];have jf:∀(a:Act),(execOp a.eval o).run P w= .ok .recover w:=fun a=>by
  split at tI
  .rename_i cl dG;split at tI
   .rename_i yH;simp[execOp,dG,resolve,yH,invoke,builtin]
   .cases tI
  .cases tI
 rw[jf];have R5:((List.range ops.length).map (·+1)).filterMap ((o::ops).toArray[·]?)=ops:=by
  rw[List.filterMap_map];have:(fun i=>(o::ops).toArray[i]?)∘(·+1)=fun i=>ops[i]? :=by funext i;simp
  rw[this];exact ID ops
 have fin:∀(u:Value),VR G (xK p) u->
   wpOpsSIn (Fr none) 0 P (o::ops).toArray (Exit.thenS (c.wpSIn (Fr none) 0 P (Jz Γ G c1 cs R)) (Jz Γ G c1 cs R))
    ((List.range ops.length).map (·+1)) (({tmps:=vs++Array.replicate (fn.ntmps-vs.size) undef,defers:=[]}:Act).put o.dst u) (c1::cs) w:=fun u hu=>by
  refine Zg (N:=fn.ntmps) (G0:=G) (K:=fun σ h=>bw P Γ fn.ntmps c (fun e _ h=>(e= .ret\/e= .normal)/\R h) σ h) (fun G1 uD h1 a1 w1 q1 q2 q3 q4 q5=>?_) _ _ h G w _ (fun i _ o' iG x hx=>kx i o' iG x hx) (Gh.le.refl G) hI ((ht.put (d:=o.dst) (fun x hx=>kx 0 o h0 x hx) hu)) (put_defers _ _ _) (by rw[R5];exact H);have q6:=q5;refine wpSIn_of_wpIn rfl (wpIn_mono (q6 none G1 w1 a1 (fun l e=>by cases e) q2 q3) fun e a2 w2 hp=>?_);rw[q4]at hp;obtain⟨G2,As,h2,Ds,f1,f2,f3,f4,f5,f6,f7,f8⟩:=hp;rw[List.append_nil]at f4;have:c1::cs=c1::cs/\∃(G':Gh) (h':AH) (Ds:List Nat),G.le G'/\Inv Γ G' h' w2/\a2.defers=Ds.map mark/\(∀D∈Ds,¬G.ds D/\G'.ds D/\∀b,G'.bJ b≠some D)/\Ds.Nodup/\R h':=
   ⟨rfl,G2,h2,Ds,q1.trans f1,f2,f4,fun D hD=>⟨fun k=>(f5 D hD).1 (q1.ds D k),(f5 D hD).2⟩,f6,f8⟩
  rcases f7 with rfl|rfl
  .exact this
  .exact this
 cases p with
 |none=>
  have sQ:c0.mode= .returning:=sQ;have e1:recoverD (c0::cs)=none:=by simp[recoverD,sQ]
  have e2:c1=c0:=by rw[kz];show({c0 with mode:=FrameMode.returning}:Frame)=c0;rw[<-sQ]
  rw[e1];have:=fin .nilIface .nilIface;rw[e2]at this|-;exact this
 |some q=>
  have sQ:c0.mode= .panicking (jN q.2):=sQ;have e1:recoverD (c0::cs)=some (q.2,c1::cs):=by rw[kz];simp[recoverD,sQ,jN,D7]
  rw[e1];exact fin q.2 (Ns q.1 (hp q rfl))
end Go.aS
namespace Go.Proofs.YtmfjlankeocaoaaGreatDoor.Sx
open Go Go.Proofs Go.aS
structure GJ(p:iq):Prop where
 nm:pz p.name=true
 md:1<=p.mode/\p.mode<=4
 os:∀s∈p.bf,pz s=true
 ks:∀s∈p.kinds,pz s=true
 rs:∀r∈p.rules,bR r=true
 ch:de bX p.change=true
theorem EJ(p):mW p=bC wh::bC p.name::bP 59::bC u9::bC (kW.getD p.mode.toNat [])::bP 59::(j9 pA p.bf++(j9 qG p.kinds++(p.rules.flatMap oA++bC u_::bP 61::(gd p.change++[bP 59])))):=by simp[mW]
theorem an5(Γ a b c h):nR Tryz.prog Γ 80 [.ptr (some (a,0)),.ptr (some (b,0)),.ptr (some (c,0))] h none fun h'=>h'=h:=by refine an4 none (fun q e=>by cases e) Tryz.func80 rfl rfl rfl rfl rfl rfl ?_;rw[xK];refine aU ?_;refine cI ?_;refine uB (b:=false) rfl (fun e=>by cases e) (fun _=>?_);exact Rx
def OD:cO:= .row [.str ⟨#[]⟩,.sl [] .full,.sl [] .full,.sl [] .full,.int .i64 0,.int .i64 0,.int .i64 0,.str ⟨#[]⟩,.sl [] .full,.int .i64 0] 28
theorem abA(Γ p)(B:GJ p)(tk en h)(ht:tk.map (·.1)=mW p)(hl:tk.length<=800000):
  AC Γ 29 [.sl (eR tk) .free,.int .i64 en] h (.tuple [iI p,.int .i64 0,.int .i64 0]):=by
 rw[EJ]at ht;obtain⟨⟨t1,a1⟩,tk,rfl,e1,ht⟩:=List.map_eq_cons_iff.1 ht;obtain⟨⟨t2,a2⟩,tk,rfl,e2,ht⟩:=List.map_eq_cons_iff.1 ht;obtain⟨⟨t3,a3⟩,tk,rfl,e3,ht⟩:=List.map_eq_cons_iff.1 ht;obtain⟨⟨t4,a4⟩,tk,rfl,e4,ht⟩:=List.map_eq_cons_iff.1 ht;obtain⟨⟨t5,a5⟩,tk,rfl,e5,ht⟩:=List.map_eq_cons_iff.1 ht;obtain⟨⟨t6,a6⟩,tk,rfl,e6,ht⟩:=List.map_eq_cons_iff.1 ht;obtain⟨EB,tk,rfl,J3,ht⟩:=List.map_eq_append_iff.1 ht;obtain⟨AY,tk,rfl,CC,ht⟩:=List.map_eq_append_iff.1 ht;obtain⟨GA,tk,rfl,EE,ht⟩:=List.map_eq_append_iff.1 ht;obtain⟨⟨t7,a7⟩,tk,rfl,e7,ht⟩:=List.map_eq_cons_iff.1 ht;obtain⟨⟨t8,a8⟩,tk,rfl,e8,ht⟩:=List.map_eq_cons_iff.1 ht;obtain⟨mf,tk,rfl,tZ,ht⟩:=List.map_eq_append_iff.1 ht;obtain⟨⟨t9,a9⟩,tk,rfl,e9,ht⟩:=List.map_eq_cons_iff.1 ht;obtain rfl:=List.map_eq_nil_iff.1 ht;subst e1 e2 e3 e4 e5 e6 e7 e8 e9;obtain⟨m3,OE⟩:∃m3:Ts,m3=GA++(bC u_,a7)::(bP 61,a8)::(mf++[(bP 59,a9)]):=⟨_,rfl⟩;obtain⟨m2,vS⟩:∃m2:Ts,m2=EB++(AY++m3):=⟨_,rfl⟩;have k3:ln m3 qG=false/\ln m3 pA=false:=by
  rw[OE];cases hr:p.rules with
  |nil=>
   rw[hr]at EE;rw[List.map_eq_nil_iff.1 EE];exact⟨rfl,rfl⟩
  |cons r rs=>
   rw[hr,List.flatMap_cons,Ey]at EE;obtain⟨⟨u,b⟩,tk,rfl,f1,-⟩:=List.map_eq_cons_iff.1 EE;subst f1;exact⟨rfl,rfl⟩
 have k2:ln (AY++m3) pA=false:=by
  cases hk:p.kinds with
  |nil=>
   rw[hk]at CC;rw[List.map_eq_nil_iff.1 CC];exact k3.2
  |cons s rs=>
   rw[hk,j9,List.flatMap_cons]at CC;obtain⟨⟨u,b⟩,tk,rfl,f1,-⟩:=List.map_eq_cons_iff.1 CC;subst f1;rfl
 rw[<-OE,<-vS]at hl|-;simp only[List.length_cons]at hl;have l2:m2.length=EB.length+(AY.length+m3.length):=by rw[vS];simp
 obtain⟨q0,hq0⟩:∃q0:Ts,q0=(bC wh,a1)::(bC p.name,a2)::(bP 59,a3)::(bC u9,a4)::(bC (kW.getD p.mode.toNat []),a5)::(bP 59,a6)::m2:=⟨_,rfl⟩;rw[<-hq0];obtain⟨H0,lU⟩:∃H0:AH,H0=h++[OD,.row [.int .i64 0] 3,.row [.int .i64 0] 31,.row (nu q0 en wj) 142]:=⟨_,rfl⟩;have OA:H0.length=h.length+4:=by rw[lU];simp
 have hi:h.length+3<H0.length:=by omega
 have hHp:∀pc q,Hp H0 (h.length+3) en pc q=h++[OD,.row [.int .i64 0] 3,.row [.int .i64 0] 31,.row (nu q en pc) 142]:=fun pc q=>by rw[Hp,lU,List.set_append_right _ _ (by omega)];simp
 have c1:=an2 Γ p B.nm B.md H0 (h.length+3) en hi a1 a2 a3 a4 a5 a6 m2 (by omega);have c2:=amZ Γ p B.os B.ks H0 (h.length+3) en hi EB AY m3 J3 CC k3.1 k2 (by rw[<-vS];omega);have c3:=am2 Γ p B.rs B.ch H0 (h.length+3) en hi GA mf a7 a8 a9 EE tZ (by rw[<-OE];omega);rw[<-vS]at c2;rw[<-OE]at c3;rw[<-hq0]at c1;have x0:h++[OD,.row [.int .i64 0] 3,.row [.int .i64 0] 31,.row (nu q0 en wj) 142]=Hp H0 (h.length+3) en wj q0:=(hHp ..).symm;refine az.ji ?_;refine bu (D8 (rs:=[.cell 4 28,.cell 5 3,.cell 6 31]) (h.length+3) 29 Tryz.func29 rfl rfl rfl rfl (by kernel_rfl) (by kernel_rfl) (by kernel_rfl)) ?_;obtain⟨fl,qg⟩:∃fl:List AV,fl=[.func 81 [.ptr (some (h.length+3,0))] [],.func 82 [.ptr (some (h.length+3,0))] [],.func 83 [.ptr (some (h.length+3,0))] []]:=⟨_,rfl⟩;refine ee.of (oO (β:=Nat) [81,82,83] [4,5,6,7,21,22,23] (fun ae _=>[(4,.ptr (some (h.length,0))),(5,.ptr (some (h.length+1,0))),(6,.ptr (some (h.length+2,0))),(7,.ptr (some (h.length+3,0))),(21,.sl [.func 81 [.ptr (some (h.length+3,0))] [],.func 82 [.ptr (some (h.length+3,0))] [],.func 83 [.ptr (some (h.length+3,0))] []] .full),(22,.int .i64 3),(23,.int .i64 ae.length)])
  (fun k=>match k with|0=>Hp H0 (h.length+3) en wj q0|1=>Hp H0 (h.length+3) en (rY p) m2|2=>Hp H0 (h.length+3) en (ve p) m3|_=>Hp H0 (h.length+3) en (ED p) []) (fun ae _ k=>k=ae.length) 0 ?_ x0 rfl Ty.mixed (by kernel_rfl) ?_ ?_)
 .simp(disch:=omega) only[go_sem,seval,List.length_nil]
 .rintro ae x r k hd rfl;rcases ae with _|⟨d1,_|⟨d2,_|⟨d3,ae⟩⟩⟩
  .simp only[List.nil_append,List.cons.injEq]at hd;obtain⟨rfl,rfl⟩:=hd;simp(disch:=omega) only[go_sem,seval,List.length_nil];refine bu (az.eT c1) ?_;exact cd 1 rfl rfl rfl
  .simp only[List.cons_append,List.nil_append,List.cons.injEq]at hd;obtain⟨rfl,rfl,rfl⟩:=hd;simp(disch:=omega) only[go_sem,seval,List.length_cons,List.length_nil];refine bu (az.eT c2) ?_;exact cd 2 rfl rfl rfl
  .simp only[List.cons_append,List.nil_append,List.cons.injEq]at hd;obtain⟨rfl,rfl,rfl,rfl⟩:=hd;simp(disch:=omega) only[go_sem,seval,List.length_cons,List.length_nil];refine bu (az.eT c3) ?_;exact cd 3 rfl rfl rfl
  .have:=congrArg List.length hd;simp at this
 .rintro k rfl;simp(disch:=omega) only[go_sem,seval,List.length_cons,List.length_nil];refine ee.keep [4,5,6,7] (pq (B:=h.length+3) _ _ _ _ (by kernel_rfl) ?_);rw[hHp,nu,ED,zk,OD];simp(disch:=omega) only[go_sem,seval,Gq];refine lR (an5 Γ _ _ _ _) ?_;rintro _ rfl;refine aU ?_;rw[jj]
theorem an6(Γ)(gH:Γ 1=some powC/\Γ 1000002=some [])(p)(B:GJ p)(h)(eD:∀t∈mW p,rU t)(hl:(ir (mW p)).length<=65536)(kV:(mW p).length<=800000):
  AC Γ 11 [.str ⟨⟨ir (mW p)⟩⟩] h (.tuple [iI p,.int .i64 0,.int .i64 0]):=by
 have an7:∀(l:List Tk) (a:Int),(va a l).map (·.1)=l:=fun l=>by
  induction l with
  |nil=>intro a;rfl
  |cons x r ih=>intro a;rw[va,List.map_cons,ih]
 refine az.drop ?_;refine cY [.cell 2 28,.tmp 3,.tmp 4] Tryz.func11 ?_;refine az.cv (TN Γ gH (mW p) _ eD hl (by omega)) ?_;simp(disch:=omega) only[go_sem,seval,oQ];refine az.cv (abA Γ p B (va 0 (mW p)) _ _ (an7 _ _) (by rw[TM];exact kV)) ?_;rw[jj];exact dL
end Go.Proofs.YtmfjlankeocaoaaGreatDoor.Sx
namespace Go.Proofs.YtmfjlankeocaoaaGreatDoor.Sx
open Go Go.Proofs Go.aS
theorem an8(Γ)(s:Tx)(h)(hl:65536<s.length)(hs:s.length<=140737488355328):
  AC Γ 32 [.str ⟨⟨s⟩⟩] h (.tuple [.sl [] .full,.int .i64 0,.int .i64 2]):=by
 refine az.drop ?_;refine tO [.cell 2 71,.cell 3 3,.cell 4 31] Tryz.func32 ?_;refine cI ?_;refine fR ?_;refine fR ?_;refine gO ?_;simp(disch:=omega) only[go_sem,seval,oQ];refine uB (b:=true) ?_ (fun _=>?_) (fun e=>by cases e)
 .show AV.bool (decide (65536<(s.length:Int)))= .bool true;rw[decide_eq_true (by omega)]
 .exact Rx
def pE:iq:=⟨[],[],[],[],.mk 0 0 0 [] [],0⟩
theorem an9(Γ)(s:Tx)(h)(hl:65536<s.length)(hs:s.length<=140737488355328):
  AC Γ 11 [.str ⟨⟨s⟩⟩] h (.tuple [iI pE,.int .i64 0,.int .i64 2]):=by
 refine az.ji ?_;refine cY [.cell 2 28,.tmp 3,.tmp 4] Tryz.func11 ?_;refine bL (an8 Γ s _ hl hs) ?_;rfl
theorem ud(Γ us)(hx:∀x,U.x x∈us->WC Γ x)(i l h)(W:Wr i l h)(hl:(l++jn us).length<=1000000)(TW:us.length<=1000):
  az Tryz.prog Γ 75 [.ptr (some (i,0)),.sl (uc us) .full] h fun _ h'=>Wr i (l++jn us) h'/\Fw i h h':=
 (TD Γ us hx i l h W hl TW).tP (by have:eI (uc us)=uc us:=uL _ (fun u=>by cases u<;>simp[wq,loose]) us;simp[eI,loose,this])
theorem TX(x:Ex):∀(a:List Ex) (b:Bool),me b (a++[x])=me b a++me (b||!a.isEmpty) [x]
 |[],b=>by simp[me]
 |y::r,b=>by rw[List.cons_append];simp only[me];rw[TX x r true];simp[me]
theorem TY(x:Ex):∀(a:List Ex) (b:Bool),kE b (a++[x])=kE b a++kE (b||!a.isEmpty) [x]
 |[],b=>by simp[kE]
 |y::r,b=>by rw[List.cons_append];simp only[kE];rw[TY x r true];simp[kE]
theorem abK:∀(r a:List Ex) (b:Bool),(kE b a).length<=(kE b (a++r)).length
 |[],a,b=>by simp
 |y::r,a,b=>by have h1:=abK r (a++[y]) b;rw[TY,List.length_append,show a++[y]++r=a++y::r by simp]at h1;omega
theorem abL:∀(r a:List Ex) (b:Bool),(me b a).length<=(me b (a++r)).length
 |[],a,b=>by simp
 |y::r,a,b=>by have h1:=abL r (a++[y]) b;rw[TX,List.length_append,show a++[y]++r=a++y::r by simp]at h1;omega
theorem s7:tD Tryz.prog 9=true:=by kernel_rfl
theorem EK:tD Tryz.prog 130=true:=by kernel_rfl
theorem ON:tD Tryz.prog 3=true:=by kernel_rfl
theorem GP:tD Tryz.prog 26=true:=by kernel_rfl
theorem abM(s):jn [.w Cz,.nm s]=gd (.mk 1 0 0 s []):=rfl
theorem abN(n s):jn [.w CA,.n n,.w oV,.nm s]=gd (.mk 2 n 0 s []):=rfl
theorem abO(n):jn [.w sY,.n n]=[bC sY,fF n]:=rfl
theorem abP:jn [.w zj]=[bC zj]:=rfl
theorem abQ(x):jn [.w [40],.x x,.w [41]]=bP 40::(gd x++[bP 41]):=rfl
theorem abR(n):jn [.n n,.w oV,.w [40]]=[fF n,bC oV,bP 40]:=rfl
theorem abS:jn [.w [44]]=[bP 44]:=rfl
theorem abT:jn [.w [41]]=[bP 41]:=rfl
theorem abU(x):jn [.x x]=gd x:=by simp[jn,CL]
theorem TZ(Γ:GG):∀x:Ex,de bX x=true->WC Γ x
 | .mk k n no s l,h=>by
  have sub:∀y∈l,WC Γ y:=fun y hy=>TZ Γ y (Gj h hy);have ht:=Gi h;rw[bX,Bool.and_eq_true,Bool.and_eq_true,beq_iff_eq,Bool.or_eq_true,Bool.not_eq_true']at ht;obtain⟨⟨h1,h2⟩,h3⟩:=ht;have h2:no=0:=h2;subst h2;have h1:(if k=1 then decide (n=0/\l.length=0)else if k=2 then decide (1<=n/\n<=4096/\l.length=0)else if k=3 then decide (s.length=0/\1<=l.length/\l.length<=16/\1<=n/\n<=l.length)else if k=4 then decide (s.length=0/\l.length=2/\0<=n/\n<=1099511627776)else false)=true:=h1;intro i tk H W hl;rw[mu];refine cS [] Tryz.func141 ?_;have dN:i<H.length:=by obtain⟨own,e,-⟩:=W;exact(List.getElem?_eq_some_iff.1 e).1
  refine aU ?_;obtain⟨H1,gJ⟩:∃H1:AH,H1=H++[.row [.int .i64 k,.int .i64 n,.int .i64 0,.str ⟨⟨s⟩⟩,.sl (l.map aK) .free] 26]:=⟨_,rfl⟩;have W1:Wr i tk H1:=by rw[gJ];exact W.app _
  have F1:Fw i H H1:=by rw[gJ];exact Fw.app _ _ _
  have g:∀h',Fw i H1 h'->h'[H.length]? =some (.row [.int .i64 k,.int .i64 n,.int .i64 0,.str ⟨⟨s⟩⟩,.sl (l.map aK) .free] 26):=fun h' hf=>hf.2 _ _ (by rw[gJ];simp) (.inr ⟨dN,fun _=>by simp⟩);have g0:=g H1 (Fw.refl _ _);rw[<-gJ];by_cases e:k=1
  .subst e;have h1:=of_decide_eq_true h1;simp only[List.length_eq_zero_iff]at h1;obtain⟨rfl,rfl⟩:=h1;refine aJ.pos rfl ?_;simp(disch:=omega) only[go_sem,seval,g0,s7,EK];refine az.then (ud Γ [.w Cz,.nm s] (fun x hx=>by simp at hx) i tk H1 W1 (by rw[abM];exact hl) (by simp)) ?_
   rintro v h' ⟨w1,w2⟩;rw[abM]at w1;refine aU ?_;exact⟨w1,F1.trans w2⟩
  rw[if_neg e]at h1;refine bu (aJ.neg e) ?_;by_cases e:k=2
  .subst e;have h1:=of_decide_eq_true h1;simp only[List.length_eq_zero_iff]at h1;obtain⟨-,-,rfl⟩:=h1;refine aJ.pos rfl ?_;simp(disch:=omega) only[go_sem,seval,g0,s7,EK,ON];refine az.then (ud Γ [.w CA,.n n,.w oV,.nm s] (fun x hx=>by simp at hx) i tk H1 W1 (by rw[abN];exact hl) (by simp)) ?_
   rintro v h' ⟨w1,w2⟩;rw[abN]at w1;refine aU ?_;exact⟨w1,F1.trans w2⟩
  rw[if_neg e]at h1;refine bu (aJ.neg e) ?_;by_cases e3:k=3
  .subst e3;have h1:=of_decide_eq_true h1;simp only[List.length_eq_zero_iff]at h1;obtain⟨rfl,nN,j7,-⟩:=h1;have ht:gd (.mk 3 n 0 [] l)=[fF n,bC oV,bP 40]++(kE false l++[bP 41]):=by simp[gd]
   rw[ht]at hl|-;simp only[List.length_append,List.length_cons,List.length_nil]at hl;refine aJ.neg (by omega) ?_;simp(disch:=omega) only[go_sem,seval,g0,s7,ON];refine az.then (ud Γ [.n n,.w oV,.w [40]] (fun x hx=>by simp at hx) i tk H1 W1 (by rw[abR];simp;omega) (by simp)) ?_
   rintro v h2 ⟨w1,w2⟩;rw[abR]at w1;simp(disch:=omega) only[go_sem,seval,g h2 w2,List.length_map];have F2:Fw i H h2:=F1.trans w2;refine d_ (β:=AH) l [0,19,20,21] (fun ae _=>[(0,.ptr (some (i,0))),(19,.sl (l.map aK) .free),(20,.int .i64 l.length),(21,.int .i64 ae.length)]) (fun b=>b) (fun ae _ b=>Wr i (tk++([fF n,bC oV,bP 40]++kE false ae)) b/\Fw i H b) h2 ?_ rfl ⟨by simpa [kE]using w1,F2⟩ ?_ ?_
   .simp(disch:=omega) only[go_sem,seval,List.length_nil]
   .rintro ae y r b hd ⟨hW,hF⟩;have hn:l.length=ae.length+1+r.length:=by rw[hd];simp;omega
    have ey:(l.map aK)[ae.length]? =some (aK y):=by rw[hd];exact fZ ..
    have jk:kE false (ae++[y])=kE false ae++((if ae.length=0 then[]else[bP 44])++gd y):=by rw[TY];cases ae<;>simp[kE]
    have xZ:(kE false (ae++[y])).length<=(kE false l).length:=by rw[hd,show ae++y::r=(ae++[y])++r by simp];exact abK r (ae++[y]) false
    rw[jk]at xZ;simp only[List.length_append]at xZ;rw[dM]at ey;simp(disch:=omega) only[go_sem,seval];refine aJ.pos (by omega) ?_;simp(disch:=omega) only[go_sem,seval,ey];obtain⟨b1,fI⟩:∃b1:AH,b1=b++[.row [.int .i64 y.k,.int .i64 y.n,.int .i64 y.no,.str ⟨⟨y.name⟩⟩,.sl (y.l.map aK) .free] 26]:=⟨_,rfl⟩;have Wb:Wr i (tk++([fF n,bC oV,bP 40]++kE false ae)) b1:=by rw[fI];exact hW.app _
    have Fb:Fw i H b1:=by rw[fI];exact hF.trans (Fw.app _ _ _)
    have KE:i<b.length:=by have:=hF.1;omega
    have gb:∀h',Fw i b1 h'->h'[b.length]? =some (.row [.int .i64 y.k,.int .i64 y.n,.int .i64 y.no,.str ⟨⟨y.name⟩⟩,.sl (y.l.map aK) .free] 26):=fun h' hf=>hf.2 _ _ (by rw[fI];simp) (.inr ⟨KE,fun _=>by simp⟩);rw[<-fI];have last:∀(b2:AH) (q:List Tk),Fw i b1 b2->Wr i q b2->(q++gd y).length<=1000000->az Tryz.prog Γ 75 [.ptr (some (i,0)),.sl (uc [.x y]) .full] b2 fun _ h'=>Wr i (q++gd y) h'/\Fw i H h':=fun b2 q f1 f2 f3=>by have:=ud Γ [.x y] (fun x hx=>by grind) i q b2 f2 (by rw[abU];exact f3) (by simp);rw[abU]at this;exact this.mono fun v h' hh=>⟨hh.1,(Fb.trans f1).trans hh.2⟩
    rw[uc,List.map_cons,wq,dM]at last;by_cases hz:ae.length=0
    .refine aJ.neg (by omega) ?_;rw[if_pos hz,List.nil_append]at jk;simp(disch:=omega) only[go_sem,seval,gb b1 (Fw.refl _ _),GP];refine az.then (last b1 _ (Fw.refl _ _) Wb (by simp at xZ|-;omega)) ?_
     rintro v h' ⟨v1,v2⟩;refine aU ?_;refine cd h' ⟨?_,v2⟩ ?_ rfl
     .simp_all
     .simp(disch:=omega) only[go_sem,seval,List.length_append]
    .refine aJ.pos (by omega) ?_;rw[if_neg hz]at jk xZ;simp only[List.length_singleton]at xZ;simp(disch:=omega) only[go_sem,seval,s7];refine az.then (ud Γ [.w [44]] (fun x hx=>by simp at hx) i _ b1 Wb (by rw[abS];simp;omega) (by simp)) ?_
     rintro v b2 ⟨v1,v2⟩;rw[abS]at v1;simp(disch:=omega) only[go_sem,seval,gb b2 v2,GP];refine az.then (last b2 _ v2 v1 (by simp;omega)) ?_
     rintro v h' ⟨v3,v4⟩;refine aU ?_;refine cd h' ⟨?_,v4⟩ ?_ rfl
     .simp_all
     .simp(disch:=omega) only[go_sem,seval,List.length_append]
   .rintro b ⟨hW,hF⟩;simp(disch:=omega) only[go_sem,seval];refine jL [0] ?_;simp(disch:=omega) only[go_sem,seval,s7];refine az.then (ud Γ [.w [41]] (fun x hx=>by simp at hx) i _ b hW (by rw[abT];simp;omega) (by simp)) ?_
    rintro v h' ⟨v1,v2⟩;rw[abT]at v1;refine aU ?_;exact⟨by simpa [List.append_assoc]using v1,hF.trans v2⟩
  .rw[if_neg e3]at h1;by_cases e4:k=4
   .subst e4;have h1:=of_decide_eq_true h1;simp only[List.length_eq_zero_iff]at h1;obtain⟨rfl,j7,-⟩:=h1;have ht:gd (.mk 4 n 0 [] l)=[bC sY,fF n]++me false l:=by simp[gd]
    rw[ht]at hl|-;simp only[List.length_append,List.length_cons,List.length_nil]at hl;refine aJ.pos rfl ?_;simp(disch:=omega) only[go_sem,seval,g0,s7,ON];refine az.then (ud Γ [.w sY,.n n] (fun x hx=>by simp at hx) i tk H1 W1 (by rw[abO];simp;omega) (by simp)) ?_
    rintro v h2 ⟨w1,w2⟩;rw[abO]at w1;simp(disch:=omega) only[go_sem,seval,g h2 w2,List.length_map];have F2:Fw i H h2:=F1.trans w2;refine d_ (β:=AH) l [0,74,75,76] (fun ae _=>[(0,.ptr (some (i,0))),(74,.sl (l.map aK) .free),(75,.int .i64 l.length),(76,.int .i64 ae.length)]) (fun b=>b) (fun ae _ b=>Wr i (tk++([bC sY,fF n]++me false ae)) b/\Fw i H b) h2 ?_ rfl ⟨by simpa [me]using w1,F2⟩ ?_ ?_
    .simp(disch:=omega) only[go_sem,seval,List.length_nil]
    .rintro ae y r b hd ⟨hW,hF⟩;have hn:l.length=ae.length+1+r.length:=by rw[hd];simp;omega
     have ey:(l.map aK)[ae.length]? =some (aK y):=by rw[hd];exact fZ ..
     have jk:me false (ae++[y])=me false ae++((if ae.length=0 then[]else[bC zj])++(bP 40::(gd y++[bP 41]))):=by rw[TX];cases ae<;>simp[me]
     have xZ:(me false (ae++[y])).length<=(me false l).length:=by rw[hd,show ae++y::r=(ae++[y])++r by simp];exact abL r (ae++[y]) false
     rw[jk]at xZ;simp only[List.length_append,List.length_cons,List.length_nil]at xZ;rw[dM]at ey;simp(disch:=omega) only[go_sem,seval];refine aJ.pos (by omega) ?_;simp(disch:=omega) only[go_sem,seval,ey];obtain⟨b1,fI⟩:∃b1:AH,b1=b++[.row [.int .i64 y.k,.int .i64 y.n,.int .i64 y.no,.str ⟨⟨y.name⟩⟩,.sl (y.l.map aK) .free] 26]:=⟨_,rfl⟩;have Wb:Wr i (tk++([bC sY,fF n]++me false ae)) b1:=by rw[fI];exact hW.app _
     have Fb:Fw i H b1:=by rw[fI];exact hF.trans (Fw.app _ _ _)
     have KE:i<b.length:=by have:=hF.1;omega
     have gb:∀h',Fw i b1 h'->h'[b.length]? =some (.row [.int .i64 y.k,.int .i64 y.n,.int .i64 y.no,.str ⟨⟨y.name⟩⟩,.sl (y.l.map aK) .free] 26):=fun h' hf=>hf.2 _ _ (by rw[fI];simp) (.inr ⟨KE,fun _=>by simp⟩);rw[<-fI];have last:∀(b2:AH) (q:List Tk),Fw i b1 b2->Wr i q b2->(q++bP 40::(gd y++[bP 41])).length<=1000000->az Tryz.prog Γ 75 [.ptr (some (i,0)),.sl (uc [.w [40],.x y,.w [41]]) .full] b2 fun _ h'=>Wr i (q++bP 40::(gd y++[bP 41])) h'/\Fw i H h':=fun b2 q f1 f2 f3=>by have:=ud Γ [.w [40],.x y,.w [41]] (fun x hx=>by grind) i q b2 f2 (by rw[abQ];exact f3) (by simp);rw[abQ]at this;exact this.mono fun v h' hh=>⟨hh.1,(Fb.trans f1).trans hh.2⟩
     simp only[uc,List.map_cons,List.map_nil,wq,dM]at last;by_cases hz:ae.length=0
     .refine aJ.neg (by omega) ?_;rw[if_pos hz,List.nil_append]at jk;simp(disch:=omega) only[go_sem,seval,gb b1 (Fw.refl _ _),s7,GP];refine az.then (last b1 _ (Fw.refl _ _) Wb (by simp at xZ|-;omega)) ?_
      rintro v h' ⟨v1,v2⟩;refine aU ?_;refine cd h' ⟨?_,v2⟩ ?_ rfl
      .grind
      .simp(disch:=omega) only[go_sem,seval,List.length_append]
     .refine aJ.pos (by omega) ?_;rw[if_neg hz]at jk xZ;simp only[List.length_cons,List.length_nil]at xZ;simp(disch:=omega) only[go_sem,seval,s7];refine az.then (ud Γ [.w zj] (fun x hx=>by simp at hx) i _ b1 Wb (by rw[abP];simp;omega) (by simp)) ?_
      rintro v b2 ⟨v1,v2⟩;rw[abP]at v1;simp(disch:=omega) only[go_sem,seval,gb b2 v2,s7,GP];refine az.then (last b2 _ v2 v1 (by simp;omega)) ?_
      rintro v h' ⟨v3,v4⟩;refine aU ?_;refine cd h' ⟨?_,v4⟩ ?_ rfl
      .grind
      .simp(disch:=omega) only[go_sem,seval,List.length_append]
    .rintro b ⟨hW,hF⟩;simp(disch:=omega) only[go_sem,seval];exact⟨hW,hF⟩
   .rw[if_neg e4]at h1;cases h1
theorem abV(a b):jn [.w wh,.nm a,.w [59],.w u9,.nm b,.w [59]]=[bC wh,bC a,bP 59,bC u9,bC b,bP 59]:=rfl
theorem abW(s):jn [.w pA,.nm s,.w [59]]=[bC pA,bC s,bP 59]:=rfl
theorem abX(s):jn [.w qG,.nm s,.w [59]]=[bC qG,bC s,bP 59]:=rfl
theorem abY(r):jn [.w zi,.nm r.kind,.w wi,.n r.g_,.w [61],.x r.x,.w [59]]=oA r:=by rw[Ey];rfl
theorem abZ(x):jn [.w u_,.w [61],.x x,.w [59]]=bC u_::bP 61::(gd x++[bP 59]):=rfl
theorem KF(w l):(j9 w l).length=3*l.length:=by
 induction l with
 |nil=>rfl
 |cons x r ih=>
  have:j9 w (x::r)=[bC w,bC x,bP 59]++j9 w r:=by simp[j9]
  grind
theorem ab0(l:List Rl):l.length<=(l.flatMap oA).length:=by
 induction l with
 |nil=>simp
 |cons x r ih=>
  rw[List.flatMap_cons,List.length_append,Ey];simp only[List.length_cons];omega
theorem aox(Γ p)(B:GJ p)(i h)(W:Wr i [] h)(hl:(mW p).length<=800000):
  az Tryz.prog Γ 27 [.ptr (some (i,0)),iI p] h fun _ h'=>Wr i (mW p) h'/\Fw i h h':=by
 have hp:mW p=[bC wh,bC p.name,bP 59,bC u9,bC (kW.getD p.mode.toNat []),bP 59]++(j9 pA p.bf++(j9 qG p.kinds++(p.rules.flatMap oA++(bC u_::bP 61::(gd p.change++[bP 59]))))):=by rw[EJ];rfl
 have dN:i<h.length:=by obtain⟨own,e,-⟩:=W;exact(List.getElem?_eq_some_iff.1 e).1
 have em:(bq kW)[p.mode.toNat]? =some (.str ⟨⟨kW.getD p.mode.toNat []⟩⟩):=by
  have h1:=B.md;obtain⟨M,hM⟩:∃M:Nat,p.mode=M:=⟨p.mode.toNat,by omega⟩;rw[hM,Int.toNat_natCast];have:M<5:=by omega
  match M,this with
  |0,_|1,_|2,_|3,_|4,_=>rfl
 have hmd:=B.md;rw[jj];refine tO [] Tryz.func27 ?_;refine cI ?_;obtain⟨H1,gJ⟩:∃H1:AH,H1=h++[.row [.str ⟨⟨p.name⟩⟩,.sl (bq p.kinds) .free,.sl (bq p.bf) .free,.sl (p.rules.map bY) .free,.int .i64 p.change.k,.int .i64 p.change.n,.int .i64 p.change.no,.str ⟨⟨p.change.name⟩⟩,.sl (p.change.l.map aK) .free,.int .i64 p.mode] 28]:=⟨_,rfl⟩;have W1:Wr i [] H1:=by rw[gJ];exact W.app _
 have F1:Fw i h H1:=by rw[gJ];exact Fw.app _ _ _
 have g:∀h',Fw i H1 h'->h'[h.length]? =some (.row [.str ⟨⟨p.name⟩⟩,.sl (bq p.kinds) .free,.sl (bq p.bf) .free,.sl (p.rules.map bY) .free,.int .i64 p.change.k,.int .i64 p.change.n,.int .i64 p.change.no,.str ⟨⟨p.change.name⟩⟩,.sl (p.change.l.map aK) .free,.int .i64 p.mode] 28):=fun h' hf=>hf.2 _ _ (by rw[gJ];simp) (.inr ⟨dN,fun _=>by simp⟩);have g0:=g H1 (Fw.refl _ _);rw[<-gJ];refine SP [0,3] (fun σ hy=>σ=[(0,.ptr (some (i,0))),(3,.ptr (some (h.length,0)))]/\Wr i [bC wh,bC p.name,bP 59,bC u9,bC (kW.getD p.mode.toNat []),bP 59] hy/\Fw i H1 hy) (ZK (c:=15) Ty.mixed (by kernel_rfl) (by kernel_rfl) rfl (by kernel_rfl) ?_ ?_) ?_
 .unfold mm;exact dL
 .simp only[List.take_succ_cons,List.take_zero,List.drop_succ_cons,List.drop_zero];simp(disch:=omega) only[go_sem,seval,g0,s7,EK];refine gY.intro (fun j=>aaR Γ _) ?_;simp(disch:=omega) only[go_sem,seval,g0,em,s7,EK];refine⟨by omega,?_⟩;refine az.then (ud Γ [.w wh,.nm p.name,.w [59],.w u9,.nm (kW.getD p.mode.toNat []),.w [59]] (fun x hx=>by simp at hx) i [] H1 W1 (by rw[abV];simp) (by simp)) ?_
  rintro v h' ⟨v1,v2⟩;rw[abV,List.nil_append]at v1;refine aU ?_;exact⟨v1,v2⟩
 .rintro _ h2 ⟨rfl,W2,F2⟩;obtain⟨p1,AZ⟩:∃p1:List Tk,p1=[bC wh,bC p.name,bP 59,bC u9,bC (kW.getD p.mode.toNat []),bP 59]:=⟨_,rfl⟩;rw[<-AZ]at W2 hp;obtain⟨p2,uJ⟩:∃p2:List Tk,p2=p1++j9 pA p.bf:=⟨_,rfl⟩;obtain⟨p3,Dg⟩:∃p3:List Tk,p3=p2++j9 qG p.kinds:=⟨_,rfl⟩;obtain⟨p4,On⟩:∃p4:List Tk,p4=p3++p.rules.flatMap oA:=⟨_,rfl⟩;have hp5:mW p=p4++(bC u_::bP 61::(gd p.change++[bP 59])):=by rw[On,Dg,uJ,hp];simp
  rw[hp5]at hl|-;have l4:p4.length=p3.length+(p.rules.flatMap oA).length:=by rw[On];simp
  have l3:p3.length=p2.length+(j9 qG p.kinds).length:=by rw[Dg];simp
  have l2:p2.length=p1.length+(j9 pA p.bf).length:=by rw[uJ];simp
  simp only[List.length_append,List.length_cons,List.length_nil]at hl;have lo:=KF pA p.bf;have lk:=KF qG p.kinds;have lr:=ab0 p.rules;have dl:∀(w:Tx) (l:List Tx) (a r:List Tx) (x:Tx),l=a++x::r->(j9 w (a++[x])).length<=(j9 w l).length/\j9 w (a++[x])=j9 w a++[bC w,bC x,bP 59]:=fun w l a r x e=>by
   have e1:j9 w (a++[x])=j9 w a++[bC w,bC x,bP 59]:=by simp[j9]
   refine⟨?_,e1⟩;rw[e1,e];simp[j9]
  refine gO ?_;simp(disch:=omega) only[go_sem,seval,g h2 F2,kA];refine d_ (β:=AH) p.bf [0,3,27,28,29] (fun ae _=>[(0,.ptr (some (i,0))),(3,.ptr (some (h.length,0))),(27,.sl (bq p.bf) .free),(28,.int .i64 p.bf.length),(29,.int .i64 ae.length)]) (fun b=>b) (fun ae _ b=>Wr i (p1++j9 pA ae) b/\Fw i H1 b) h2 ?_ rfl ⟨by simpa [j9]using W2,F2⟩ ?_ ?_
  .simp(disch:=omega) only[go_sem,seval,List.length_nil]
  .rintro ae x r b hd ⟨hW,hF⟩;have hn:p.bf.length=ae.length+1+r.length:=by rw[hd];simp;omega
   have ex:(bq p.bf)[ae.length]? =some (.str ⟨⟨x⟩⟩):=by rw[hd];exact yY ae r x
   obtain⟨d1,d2⟩:=dl pA _ _ _ _ hd;rw[d2]at d1;simp only[List.length_append,List.length_cons,List.length_nil]at d1;simp(disch:=omega) only[go_sem,seval];refine aJ.pos (by omega) ?_;simp(disch:=omega) only[go_sem,seval,ex,s7,EK];refine az.then (ud Γ [.w pA,.nm x,.w [59]] (fun x hx=>by simp at hx) i _ b hW (by rw[abW];simp;omega) (by simp)) ?_
   rintro v h' ⟨v1,v2⟩;rw[abW,List.append_assoc,<-d2]at v1;refine aU ?_;refine cd h' ⟨v1,hF.trans v2⟩ ?_ rfl;simp(disch:=omega) only[go_sem,seval,List.length_append]
  .rintro h3 ⟨W3,F3⟩;rw[<-uJ]at W3;simp(disch:=omega) only[go_sem,seval];refine jL [0,3] ?_;simp(disch:=omega) only[go_sem,seval,g h3 F3,kA];refine d_ (β:=AH) p.kinds [0,3,42,43,44] (fun ae _=>[(0,.ptr (some (i,0))),(3,.ptr (some (h.length,0))),(42,.sl (bq p.kinds) .free),(43,.int .i64 p.kinds.length),(44,.int .i64 ae.length)]) (fun b=>b) (fun ae _ b=>Wr i (p2++j9 qG ae) b/\Fw i H1 b) h3 ?_ rfl ⟨by simpa [j9]using W3,F3⟩ ?_ ?_
   .simp(disch:=omega) only[go_sem,seval,List.length_nil]
   .rintro ae x r b hd ⟨hW,hF⟩;have hn:p.kinds.length=ae.length+1+r.length:=by rw[hd];simp;omega
    have ex:(bq p.kinds)[ae.length]? =some (.str ⟨⟨x⟩⟩):=by rw[hd];exact yY ae r x
    obtain⟨d1,d2⟩:=dl qG _ _ _ _ hd;rw[d2]at d1;simp only[List.length_append,List.length_cons,List.length_nil]at d1;simp(disch:=omega) only[go_sem,seval];refine aJ.pos (by omega) ?_;simp(disch:=omega) only[go_sem,seval,ex,s7,EK];refine az.then (ud Γ [.w qG,.nm x,.w [59]] (fun x hx=>by simp at hx) i _ b hW (by rw[abX];simp;omega) (by simp)) ?_
    rintro v h' ⟨v1,v2⟩;rw[abX,List.append_assoc,<-d2]at v1;refine aU ?_;refine cd h' ⟨v1,hF.trans v2⟩ ?_ rfl;simp(disch:=omega) only[go_sem,seval,List.length_append]
   .rintro h4 ⟨W4,F4⟩;rw[<-Dg]at W4;simp(disch:=omega) only[go_sem,seval];refine jL [0,3] ?_;simp(disch:=omega) only[go_sem,seval,g h4 F4,List.length_map];refine d_ (β:=AH) p.rules [0,3,57,58,59] (fun ae _=>[(0,.ptr (some (i,0))),(3,.ptr (some (h.length,0))),(57,.sl (p.rules.map bY) .free),(58,.int .i64 p.rules.length),(59,.int .i64 ae.length)]) (fun b=>b) (fun ae _ b=>Wr i (p3++ae.flatMap oA) b/\Fw i H1 b) h4 ?_ rfl ⟨by simpa using W4,F4⟩ ?_ ?_
    .simp(disch:=omega) only[go_sem,seval,List.length_nil]
    .rintro ae x r b hd ⟨hW,hF⟩;have hn:p.rules.length=ae.length+1+r.length:=by rw[hd];simp;omega
     have ex:(p.rules.map bY)[ae.length]? =some (bY x):=by rw[hd];exact fZ ..
     have d2:(ae++[x]).flatMap oA=ae.flatMap oA++oA x:=by simp
     have d1:(ae.flatMap oA).length+(oA x).length<=(p.rules.flatMap oA).length:=by rw[hd];simp
     have hb:=B.rs x (by rw[hd];simp);rw[bR,Bool.and_eq_true,Bool.and_eq_true]at hb;rw[DU]at ex;simp(disch:=omega) only[go_sem,seval];refine aJ.pos (by omega) ?_;simp(disch:=omega) only[go_sem,seval,ex,s7,EK,ON,GP];have cp:=ud Γ [.w zi,.nm x.kind,.w wi,.n x.g_,.w [61],.x x.x,.w [59]] (fun y hy=>by simp at hy;subst hy;exact TZ Γ _ hb.1.2) i _ _ (hW.app [.row [.str ⟨⟨x.kind⟩⟩,.int .i64 x.lK,.int .i64 x.g_,.int .i64 x.x.k,.int .i64 x.x.n,.int .i64 x.x.no,.str ⟨⟨x.x.name⟩⟩,.sl (x.x.l.map aK) .free] 64]) (by rw[abY];simp only[List.length_append];omega) (by simp);simp only[uc,List.map_cons,List.map_nil,wq,dM]at cp;refine az.then cp ?_
     rintro v h' ⟨v1,v2⟩;rw[abY,List.append_assoc,<-d2]at v1;refine aU ?_;refine cd h' ⟨v1,(hF.trans (Fw.app _ _ _)).trans v2⟩ ?_ rfl;simp(disch:=omega) only[go_sem,seval,List.length_append]
    .rintro h5 ⟨W5,F5⟩;rw[<-On]at W5;simp(disch:=omega) only[go_sem,seval];refine jL [0,3] ?_;simp(disch:=omega) only[go_sem,seval,g h5 F5,s7,GP];have cp:=ud Γ [.w u_,.w [61],.x p.change,.w [59]] (fun y hy=>by simp at hy;subst hy;exact TZ Γ _ B.ch) i _ h5 W5 (by rw[abZ];simp;omega) (by simp);simp only[uc,List.map_cons,List.map_nil,wq,dM]at cp;refine az.then cp ?_
     rintro v h' ⟨v1,v2⟩;rw[abZ]at v1;refine aU ?_;exact⟨v1,F1.trans (F5.trans v2)⟩
theorem ab6(Γ)(l:List Tx)(h)(hl:l.length<=1000000):AC Γ 87 [.sl (bq l) .free,.sl (bq l) .free] h (.bool true):=by
 refine az.drop ?_;refine cS [.tmp 4] Tryz.func87 ?_;simp(disch:=omega) only[go_sem,seval,kA];refine d_ (β:=Unit) l [0,1,11,12,13] (fun ae _=>[(0,.sl (bq l) .free),(1,.sl (bq l) .free),(11,.sl (bq l) .free),(12,.int .i64 l.length),(13,.int .i64 ae.length)]) (fun _=>h) (fun _ _ _=>True) () ?_ rfl trivial ?_ ?_
 .simp(disch:=omega) only[go_sem,seval,List.length_nil]
 .rintro ae x r _ hd-;have hlen:l.length=ae.length+1+r.length:=by rw[hd];simp;omega
  have e1:(bq l)[ae.length]? =some (.str ⟨⟨x⟩⟩):=by rw[hd];exact yY ae r x
  simp(disch:=omega) only[go_sem,seval];refine aJ.pos (by omega) ?_;simp(disch:=omega) only[go_sem,seval,e1,fK,beq_self_eq_true];refine cd () trivial ?_ rfl;simp(disch:=omega) only[go_sem,seval,List.length_append]
 .rintro _-;simp(disch:=omega) only[go_sem,seval];exact yT []
theorem aoA(Γ)(l:List Ex)(h)(hl:l.length<=1000000)(H:∀x∈l,∀h,AC Γ 86 [aK x,aK x] h (.bool true)):AC Γ 155 [.sl (l.map aK) .free,.sl (l.map aK) .free,.func 86 [] []] h (.bool true):=by
 refine az.drop ?_;refine cS [.tmp 6] Tryz.func155 ?_;simp(disch:=omega) only[go_sem,seval,List.length_map];refine d_ (β:=AH) l [0,1,2,15,16,17] (fun ae _=>[(0,.sl (l.map aK) .free),(1,.sl (l.map aK) .free),(2,.func 86 [] []),(15,.sl (l.map aK) .free),(16,.int .i64 l.length),(17,.int .i64 ae.length)]) (fun j=>h++j) (fun _ _ _=>True) [] ?_ (by simp) trivial ?_ ?_
 .simp(disch:=omega) only[go_sem,seval,List.length_nil]
 .rintro ae x r j hd-;have hlen:l.length=ae.length+1+r.length:=by rw[hd];simp;omega
  have e1:(l.map aK)[ae.length]? =some (aK x):=by rw[hd];exact fZ ..
  have c:=H x (by rw[hd];simp);rw[dM]at e1 c;simp(disch:=omega) only[go_sem,seval];refine aJ.pos (by omega) ?_;simp(disch:=omega) only[go_sem,seval,e1];refine bL (c _) ?_;refine cd _ trivial ?_ rfl;simp(disch:=omega) only[go_sem,seval,List.length_append]
 .rintro j-;simp(disch:=omega) only[go_sem,seval];exact yT []
theorem T5(Γ:GG):∀(x:Ex) (h:AH),de bX x=true->AC Γ 86 [aK x,aK x] h (.bool true)
 | .mk k n no s l,h,hb=>by
  have sub:∀y∈l,∀h,AC Γ 86 [aK y,aK y] h (.bool true):=fun y hy h=>T5 Γ y h (Gj hb hy);have kV:l.length<=1000000:=by
   have ht:=Gi hb;rw[bX,Bool.and_eq_true,Bool.and_eq_true]at ht;have h1:(if k=1 then decide (n=0/\l.length=0)else if k=2 then decide (1<=n/\n<=4096/\l.length=0)else if k=3 then decide (s.length=0/\1<=l.length/\l.length<=16/\1<=n/\n<=l.length)else if k=4 then decide (s.length=0/\l.length=2/\0<=n/\n<=1099511627776)else false)=true:=ht.1.1;split at h1
   .have:=of_decide_eq_true h1;omega
   grind
  refine az.drop ?_;rw[mu];refine cS [.tmp 4] Tryz.func86 ?_;simp(disch:=omega) only[go_sem,seval,fK,beq_self_eq_true];exact qx (aoA Γ l _ kV sub)
theorem aoB(Γ)(l:List Rl)(h)(hl:l.length<=1000000)(H:∀x∈l,∀h,AC Γ 85 [bY x,bY x] h (.bool true)):AC Γ 88 [.sl (l.map bY) .free,.sl (l.map bY) .free,.func 85 [] []] h (.bool true):=by
 refine az.drop ?_;refine cS [.tmp 6] Tryz.func88 ?_;simp(disch:=omega) only[go_sem,seval,List.length_map];refine d_ (β:=AH) l [0,1,2,15,16,17] (fun ae _=>[(0,.sl (l.map bY) .free),(1,.sl (l.map bY) .free),(2,.func 85 [] []),(15,.sl (l.map bY) .free),(16,.int .i64 l.length),(17,.int .i64 ae.length)]) (fun j=>h++j) (fun _ _ _=>True) [] ?_ (by simp) trivial ?_ ?_
 .simp(disch:=omega) only[go_sem,seval,List.length_nil]
 .rintro ae x r j hd-;have hlen:l.length=ae.length+1+r.length:=by rw[hd];simp;omega
  have e1:(l.map bY)[ae.length]? =some (bY x):=by rw[hd];exact fZ ..
  have c:=H x (by rw[hd];simp);rw[DU]at e1 c;simp(disch:=omega) only[go_sem,seval];refine aJ.pos (by omega) ?_;simp(disch:=omega) only[go_sem,seval,e1];refine bL (c _) ?_;refine cd _ trivial ?_ rfl;simp(disch:=omega) only[go_sem,seval,List.length_append]
 .rintro j-;simp(disch:=omega) only[go_sem,seval];exact yT []
theorem aoC(Γ r h)(hb:de bX r.x=true):AC Γ 85 [bY r,bY r] h (.bool true):=by have c:=fun h=>T5 Γ r.x h hb;rw[dM]at c;refine az.drop ?_;rw[DU];refine cS [.tmp 4] Tryz.func85 ?_;simp(disch:=omega) only[go_sem,seval,fK,beq_self_eq_true];exact qx (c _)
theorem aoD(Γ p)(B:GJ p)(h)(h1:p.bf.length<=1000000)(h2:p.kinds.length<=1000000)(h3:p.rules.length<=1000000):AC Γ 30 [iI p,iI p] h (.bool true):=by
 have c:=fun h=>T5 Γ p.change h B.ch;rw[dM]at c;refine az.drop ?_;rw[jj];refine cS [.tmp 4] Tryz.func30 ?_;simp(disch:=omega) only[go_sem,seval,fK,beq_self_eq_true];refine bL (ab6 Γ p.bf _ h1) ?_;refine bL (ab6 Γ p.kinds _ h2) ?_;refine az.cv (aoB Γ p.rules _ h3 fun r hr h=>aoC Γ r h (by have:=B.rs r hr;rw[bR,Bool.and_eq_true,Bool.and_eq_true]at this;exact this.1.2)) ?_
 refine aU ?_;exact qx (c _)
end Go.Proofs.YtmfjlankeocaoaaGreatDoor.Sx
namespace Go.aS
open Go Go.RowKit Go.Sort Go.Shelf
theorem aoL{α}[Inhabited α](enc)(d:Array α)(c k):(putCells enc 0 d c)[k]? =(c[k]?).map fun x=>if k<d.size then enc d[k]! else x:=by simp[putCells,Array.getElem?_mapIdx]
section
variable {Γ:GG} {G:Gh} {h:AH} {w:World}
theorem Inv.sorted{α}[Inhabited α](enc)(av:α->AV)(hI:Inv Γ G h w){i b T vals cs pad d'}(hi:h[i]? =some (.row cs T))(dI:G.ρ i=some b)
  (hw:w.heap[b]? =some (.cells vals T (0,0)))(nB:b9 G cs vals)(hlen:cs.length=d'.size+pad.length)(TS:∀j,cs[d'.size+j]? =pad[j]?)(hav:∀x∈d'.toList,VR G (av x) (enc x))(n os):
  Inv Γ G (h.set i (.row (d'.toList.map av++pad) T)) (grow (Go.Sort.putRow enc (Go.Sort.ahead w n) b 0 d') os):=by
 have hblk:(Go.Sort.putRow enc (Go.Sort.ahead w n) b 0 d').heap[b]? =some (.cells (putCells enc 0 d' vals) T (0,0)):=by show((Go.Sort.ahead w n).heap.modify b (onCells (putCells enc 0 d')))[b]? =_;rw[Array.getElem?_modify,if_pos rfl,heap_ahead,hw];rfl
 have h1:Inv Γ G (h.set i (.row (d'.toList.map av++pad) T)) (Go.Sort.putRow enc (Go.Sort.ahead w n) b 0 d'):=by
  refine hI.write (w':=Go.Sort.putRow enc (Go.Sort.ahead w n) b 0 d') dI ?_ rfl rfl rfl (fun k hk=>?_) (.row (d'.toList.map av++pad) T) ⟨b,_,dI,hblk,?_⟩ (fun D hD=>?_) (by rw[hw];simp) (by rw[hi];simp) (Nat.le_add_right _ _)
  .show((Go.Sort.ahead w n).heap.modify b (onCells (putCells enc 0 d'))).size=_;simp
  .show((Go.Sort.ahead w n).heap.modify b (onCells (putCells enc 0 d')))[k]? =_;rw[Array.getElem?_modify,if_neg (fun e=>hk e.symm)];rfl
  .refine⟨by simp[putCells,<-nB.1,hlen],fun j c e=>?_⟩;rw[Array.getD_eq_getD_getElem?,aoL];by_cases hj:j<d'.size
   .rw[List.getElem?_append_left (by simpa using hj),List.getElem?_map]at e;obtain⟨x,hx,rfl⟩:=Option.map_eq_some_iff.1 e;obtain⟨v,hv⟩:∃v,vals[j]? =some v:=⟨vals[j]'(by rw[<-nB.1,hlen];omega),by simp⟩;rw[hv];simp only[Option.map_some,Option.getD_some,if_pos hj];have TU:x∈d'.toList:=List.mem_of_getElem? hx;have:d'[j]! =x:=by rw[getElem!_pos d' j hj];have:=(List.getElem?_eq_some_iff.1 hx).2;simpa using this
    rw[this];exact hav x TU
   .obtain⟨k,rfl⟩:∃k,j=d'.size+k:=⟨j-d'.size,by omega⟩;rw[List.getElem?_append_right (by simp)]at e;simp only[List.length_map,Array.length_toList,Nat.add_sub_cancel_left]at e;rw[<-TS k]at e;obtain⟨u,q1,q2⟩:=nB.get e;rw[q1];simp only[Option.map_some,Option.getD_some];rw[if_neg (by omega)];exact q2
  .obtain⟨l,k1,_⟩:=hI.lp b D hD;rw[hw]at k1;cases k1
 exact h1.later (by simp[grow]) rfl rfl rfl (fun k hk=>by simp only[grow];rw[Array.getElem?_append_left hk])
end
theorem aoN{P ρ Γ}(L:Go.Proofs.Lays.n189 P ρ){f}(hf:ρ.f 189=f)(he:∀vs w,(callFunc f vs).run P w= .ok (.enter f vs) w)(i c T)(l:List Int)(pad h)
  (hi:h[i]? =some (.row (l.map (fun x=>AV.int .i64 x)++pad) T))(hl:l.length<4611686018427387904):
  az P Γ f [.ms i 0 l.length c 1] h fun v h'=>v= .tuple []/\h'=h.set i (.row ((l.mergeSort fun x y=>decide (x<=y)).map (fun x=>AV.int .i64 x)++pad) T):=by
 subst hf;refine⟨he,fun G w vs hI hv=>?_⟩;obtain⟨b,vals,h1,h2,h3⟩:=hI.row hi;obtain⟨u,rfl,hu⟩:∃u,vs= #[u]/\VR G (.ms i 0 l.length c 1) u:=by
  obtain⟨k1,k2⟩:=hv;match vs,k1 with
  |⟨[u]⟩,_=>exact⟨u,rfl,k2 0 _ rfl⟩
 cases hu with
 |ms hb=>
  rw[h1]at hb;cases hb;have c_:∀j,j<l.length->vals[j]? =some (Value.int .i64 l[j]!):=fun j hj=>by
   have e:(l.map (fun x=>AV.int .i64 x)++pad)[j]? =some (.int .i64 l[j]!):=by rw[List.getElem?_append_left (by simpa using hj),List.getElem?_map,List.getElem?_eq_getElem hj,getElem!_pos l j hj];rfl
   obtain⟨v,q1,q2⟩:=h3.get e;cases q2;exact q1
  refine(Go.Proofs.Any.slices_Sort_int L b 0 c l w (fun j hj=>?_) (uj h2) hl).mono ?_
  .have jU:j<l.length:=by simpa using hj
   refine⟨?_,?_⟩
   .rw[cell_of h2,Nat.zero_add,c_ j jU];simp[jU]
   .simp[World.frozen?,h2]
  .rintro e w' ⟨rfl,n,os,rfl⟩;refine⟨_,G,.tuple [],_,rfl,Gh.le.refl G,hI.sorted (Value.int .i64) (fun x=> .int .i64 x) (d':=(l.mergeSort fun x y=>decide (x<=y)).toArray) (pad:=pad) hi h1 h2 h3 (by simp) (fun j=>?_) (fun x _=> .int _ _) n os,.tuple (by simp) (by simp),rfl,by simp⟩;rw[List.getElem?_append_right (by simp)];simp
def ue(l:List Int):AV:= .sl (l.map fun x=> .int .i64 x) .free
abbrev EM(F:Nat->Nat->Option Value):Type:={p:Value×List Int//p.2.length<=1000000/\∀G:Gh,G.F=F->VR G (ue p.2) p.1}
theorem aoV{G l v}(h:VR G (ue l) v):∀G',G'.F=G.F->VR G' (ue l) v:=fun G' e=>by
 unfold ue at*;cases h with
 |sl vals jc iT cj hF hv cP=>
  refine .sl vals jc iT cj (fun k r j c e1 e2=>?_) (fun k r j c e1 e2=>?_) trivial
  .grind
  .have:=hv k r j c e1 e2;rw[List.getElem?_map]at e1;obtain⟨x,_,rfl⟩:=Option.map_eq_some_iff.1 e1;cases j with
   |zero=>
    simp only[AV.cells,List.getElem?_cons_zero,Option.some.injEq]at e2;subst e2;generalize vals k 0=u at this|-;cases this;exact .int _ _
   |succ j=>simp[AV.cells]at e2
instance(F:Nat->Nat->Option Value):Inhabited (EM F):=⟨⟨(.slice none 0 0,[]),by simp,fun G _=>by have:=VR.sl (G:=G) (rows:=[]) (own:= .free) (a:=none) (cap:=0) (sz:=1) (fun _ _=>undef) (by simp) (by simp) (by simp) (by simp) (by simp) trivial;exact this⟩⟩
theorem aoW{G l v}(h:VR G (ue l) v):v.oneCell'=true:=by
 unfold ue at h;cases h with
 |sl=>rfl
def Gh.look(G:Gh)(W:World):Gh:={w0:=W,ρ:=fun _=>none,F:=G.F,ar:=fun _=>none,bJ:=fun _=>none,ds:=fun _=>False}
theorem Inv.look{G:Gh}{W}(aoX:∀b o v,G.F b o=some v->W.cell? ⟨b,o,none⟩=some v):Inv (fun _=>none) (G.look W) [] W where
 below:=Below.refl _ _
 k_:=fun g cs e _=>by cases e
 kJ:=fun _=>Nat.le_refl _
 fix:=aoX
 obj:=fun i ob e=>by simp at e
 ij:=fun i b e=>by cases e
 jv:=fun i b e=>by cases e
 inj:=fun i j b e=>by cases e
 base:=fun i b e=>by cases e
 sep:=fun i b o v _ e=>by cases e
 jw:=fun i r b c sz T e=>by cases e
 kb:=fun i j r r' b c sz T c' rp T' e=>by cases e
 lp:=fun b D e=>by cases e
 jx:=fun b D e=>by cases e
 gu:=fun D e=>e.elim
 kn:=fun g cs e=>by cases e
theorem grown_of{W w'}(hb:Below W.heap.size W w')(hd:W.drawn<=w'.drawn):∃q Uc,w'=grow (W.drewN q) Uc:=by
 refine⟨w'.drawn-W.drawn,w'.heap.extract W.heap.size w'.heap.size,?_⟩;obtain⟨h1,h2,h3,h4,h5⟩:=hb;obtain⟨heap,tape,drawn,os,output⟩:=w';simp only at h1 h2 h3 h4 h5 hd;subst h1 h2 h3;simp only[grow,World.drewN];congr 1
 .grind
 .omega
theorem aoY{α}[Inhabited α]{d d':Array α}(h:PermIn 0 d.size d d'):d'.toList.Perm d.toList:=by
 obtain⟨h1,_,h3⟩:=h;have e1:d'.extract 0 d.size=d':=by rw[<-h1];simp
 simp_all
theorem aoZ{P ρ Γ}(L:Go.Proofs.SlLaysF.n6 P ρ){f}(hf:ρ.f 6=f)(he:∀vs w,(callFunc f vs).run P w= .ok (.enter f vs) w){g}(eg:∀vs w,(callFunc g vs).run P w= .ok (.enter g vs) w)
  (cf:List Int->List Int->Int)(hO:SWO fun x y=>decide (cf x y<0))(hc:∀x y,x.length<=1000000->y.length<=1000000->az P (fun _=>none) g [ue x,ue y] [] fun v h'=>h'=[]/\v= .int .i64 (cf x y))
  (i c T xs pad h)(hi:h[i]? =some (.row (xs.map ue++pad) T))(hl:xs.length<4611686018427387904)(yM:∀x∈xs,x.length<=1000000):
  az P Γ f [.ms i 0 xs.length c 1,.func g [] []] h fun v h'=>v= .tuple []/\∃vj:List (List Int),vj.Perm xs/\vj.Pairwise (fun a b=>¬cf b a<0)/\h'=h.set i (.row (vj.map ue++pad) T):=by
 subst hf;refine⟨he,fun G w vs hI hv=>?_⟩;obtain⟨b,vals,h1,h2,h3⟩:=hI.row hi;obtain⟨u,u2,rfl,hu,hu2⟩:∃u u2,vs= #[u,u2]/\VR G (.ms i 0 xs.length c 1) u/\VR G (.func g [] []) u2:=by
  obtain⟨k1,k2⟩:=hv;match vs,k1 with
  |⟨[u,u2]⟩,_=>exact⟨u,u2,rfl,k2 0 _ rfl,k2 1 _ rfl⟩
 cases hu with
 |ms hb=>
 rw[h1]at hb;cases hb;cases hu2 with
 | @func _ _ _ first captured wN kz _ _=>
 have e1:first= #[]:=by simpa using wN.symm
 have e2:captured= #[]:=by simpa using kz.symm
 subst e1 e2;have c_:∀j,(hj:j<xs.length)->∃v,vals[j]? =some v/\VR G (ue xs[j]) v:=fun j hj=>by
  have e:(xs.map ue++pad)[j]? =some (ue xs[j]):=by rw[List.getElem?_append_left (by simpa using hj),List.getElem?_map,List.getElem?_eq_getElem hj];rfl
  exact h3.get e
 obtain⟨d,EI,dr⟩:∃d:Array (EM G.F),d.toList.map (fun x=>x.1.2)=xs/\∀j,(hj:j<d.size)->vals[j]? =some (d[j]!).1.1:=by
  refine⟨Array.ofFn fun j:Fin xs.length=>⟨((c_ j.1 j.2).choose,xs[j.1]),yM _ (List.getElem_mem _),aoV (c_ j.1 j.2).choose_spec.2⟩,?_,fun j hj=>?_⟩
  .apply List.ext_getElem
   .simp
   .intro j h1 h2;simp
  .rw[getElem!_pos _ j hj,Array.getElem_ofFn];exact(c_ j (by simpa using hj)).choose_spec.1
 have tF:d.size=xs.length:=by rw[<-EI];simp
 have wu:∀(W:World),(∀b' o v,G.F b' o=some v->W.cell? ⟨b',o,none⟩=some v)->∀x y:EM G.F,
   Calls P g #[x.1.1,y.1.1] W fun e w'=>e= .returned (.int .i64 (cf x.1.2 y.1.2))/\∃q Uc,w'=grow (W.drewN q) Uc:=fun W hW x y=>by
  refine((hc x.1.2 y.1.2 x.2.1 y.2.1).2 (G.look W) W #[x.1.1,y.1.1] (Inv.look hW) ⟨rfl,fun j a e=>?_⟩).mono ?_
  .match j,e with
   |0,e=>cases e;exact x.2.2 _ rfl
   |1,e=>cases e;exact y.2.2 _ rfl
  .rintro e w' ⟨v,G',av,h',rfl,k1,k2,k3,rfl,rfl⟩;cases k3;have o6:=k1.w0;refine⟨rfl,grown_of ?_ ?_⟩
   .have:=k2.below;rw[o6]at this;exact this
   .have:=k2.kJ rfl;rw[o6]at this;exact this
 have wK:Go.Proofs.OneCell fun x:EM G.F=>x.1.1:=fun x=>aoW (x.2.2 G rfl);have hO':SWO (Go.Proofs.ltOf fun x y:EM G.F=>cf x.1.2 y.1.2):=⟨fun x=>hO.irrefl _,fun x y z=>hO.trans _ _ _,fun x y z=>hO.ntrans _ _ _⟩;have key:=Go.Proofs.Any.slices_SortFunc L (fun x:EM G.F=>x.1.1) wK (fun x y=>cf x.1.2 y.1.2) hO' g #[] b 0 c d w eg
  (fun m os dk hs x y=>by
   refine wu _ (fun b' o v e=>?_) x y;have cV:b'≠b:=fun e'=>by subst e';exact hI.sep i b' o v (by rw[hi];simp) h1 e
   have dN:=hI.C_ e;rw[<-hI.fix b' o v e];refine BC ?_;show(grow (Go.Sort.putRow _ (Go.Sort.ahead w m) b 0 dk) os).heap[b']? =_;simp only[grow,Go.Sort.putRow,mapBlock];rw[Array.getElem?_append_left (by simpa using dN),Array.getElem?_modify,if_neg (fun e'=>cV e'.symm)];rfl)
  (fun j hj=>⟨by rw[cell_of h2,Nat.zero_add];exact dr j hj,by simp[World.frozen?,h2]⟩) (uj h2) (by omega)
 rw[tF]at key;refine key.mono ?_;rintro e w' ⟨rfl,d',n,os,q1,q2,rfl⟩;rw[<-tF]at q1 q2;have hp:=aoY q1;refine⟨_,G,.tuple [],_,rfl,Gh.le.refl G,hI.sorted (fun x:EM G.F=>x.1.1) (fun x=>ue x.1.2) (d':=d') (pad:=pad) hi h1 h2 h3 ?_ (fun j=>?_) (fun x _=>x.2.2 G rfl) n os,.tuple (by simp) (by simp),rfl,d'.toList.map (fun x=>x.1.2),?_,?_,?_⟩
 .have:=q1.1;simp;omega
 .have:=q1.1;rw[List.getElem?_append_right (by simp;omega)];congr 1;simp;omega
 .rw[<-EI];exact hp.map _
 .rw[List.pairwise_map,List.pairwise_iff_getElem];intro a b' ha Ag nj;have:=q2 a b' (Nat.zero_le _) nj (by have:=q1.1;simp at Ag;omega);simp at ha Ag;rw[getElem!_pos d' b' Ag,getElem!_pos d' a ha]at this;simpa [Go.Proofs.ltOf]using this
 .simp[List.map_map,Function.comp_def]
theorem acy(l:List Int):(Go.Lib.compact l).length<=l.length:=by have:=List.length_filter_le (Go.Lib.keeps l.toArray) (List.range l.length);simpa [Go.Lib.compact,Go.Lib.compactUpTo]using this
theorem ao_{P ρ Γ}(L:Go.Proofs.Lays2.n20 P ρ){f}(hf:ρ.f 20=f)(he:∀vs w,(callFunc f vs).run P w= .ok (.enter f vs) w)(i c T l pad h)
  (hi:h[i]? =some (.row (l.map (fun x=>AV.int .i64 x)++pad) T))(hl:l.length<=9223372036854775807)(hc:l.length<=c):
  az P Γ f [.ms i 0 l.length c 1] h fun v h'=>v= .ms i 0 (Go.Lib.compact l).length c 1/\h'=h.set i (.row ((Go.Lib.compact l++List.replicate (l.length-(Go.Lib.compact l).length) 0).map (fun x=>AV.int .i64 x)++pad) T):=by
 subst hf;refine⟨he,fun G w vs hI hv=>?_⟩;obtain⟨b,vals,h1,h2,h3⟩:=hI.row hi;obtain⟨u,rfl,hu⟩:∃u,vs= #[u]/\VR G (.ms i 0 l.length c 1) u:=by
  obtain⟨k1,k2⟩:=hv;match vs,k1 with
  |⟨[u]⟩,_=>exact⟨u,rfl,k2 0 _ rfl⟩
 cases hu with
 |ms hb=>
  rw[h1]at hb;cases hb;have c_:∀j,j<l.length->vals[j]? =some (Value.int .i64 l[j]!):=fun j hj=>by
   have e:(l.map (fun x=>AV.int .i64 x)++pad)[j]? =some (.int .i64 l[j]!):=by rw[List.getElem?_append_left (by simpa using hj),List.getElem?_map,List.getElem?_eq_getElem hj,getElem!_pos l j hj];rfl
   obtain⟨v,q1,q2⟩:=h3.get e;cases q2;exact q1
  refine(Go.Proofs.Any.slices_Compact_int L b 0 c l w (fun j hj=>?_) hl hc).mono ?_
  .have jU:j<l.length:=by simpa using hj
   refine⟨?_,?_⟩
   .rw[cell_of h2,Nat.zero_add,c_ j jU];simp[jU]
   .simp[World.frozen?,h2]
  .rintro e w' ⟨rfl,n,rfl⟩;have dG:=acy l;have key:=hI.sorted (Value.int .i64) (fun x=> .int .i64 x) (d':=(Go.Lib.compact l++List.replicate (l.length-(Go.Lib.compact l).length) 0).toArray) (pad:=pad) hi h1 h2 h3 (by simp;omega) (fun j=>?_) (fun x _=> .int _ _) n #[]
   .rw[grow_empty]at key;exact⟨_,G,.ms i 0 (Go.Lib.compact l).length c 1,_,rfl,Gh.le.refl G,key,.ms h1,rfl,by simp⟩
   grind
theorem apa{P ρ Γ}(L:Go.Proofs.Lays2.n20 P ρ){f}(hf:ρ.f 20=f)(he:∀vs w,(callFunc f vs).run P w= .ok (.enter f vs) w)(h):
  az P Γ f [.sl [] .full] h fun v h'=>h'=h/\v= .sl [] .full:=by
 subst hf;refine⟨he,fun G w vs hI hv=>?_⟩;obtain⟨u,rfl,hu⟩:∃u,vs= #[u]/\VR G (.sl [] .full) u:=by
  obtain⟨k1,k2⟩:=hv;match vs,k1 with
  |⟨[u]⟩,_=>exact⟨u,rfl,k2 0 _ rfl⟩
 obtain⟨a,cap,rfl⟩:∃a cap,u= .slice a 0 cap:=by
  cases hu with
  |sl=>exact⟨_,_,rfl⟩
 refine(Go.Proofs.Any.slices_Compact_int_empty L a cap w).mono ?_;rintro e w' ⟨rfl,rfl⟩;exact⟨_,G,.sl [] .full,_,rfl,Gh.le.refl G,hI,hu,rfl,rfl⟩
theorem acz(d:Array Int)(hs:∀i j,i<=j->j<d.size->d[i]! <=d[j]!):∀m,m<=d.size->(Go.Lib.compactUpTo d m).Pairwise (·<·)/\(∀x,x∈Go.Lib.compactUpTo d m<->∃j,j<m/\x=d[j]!)
 |0,_=>by simp[Go.Lib.compactUpTo]
 |m+1,hm=>by
  obtain⟨h1,h2⟩:=acz d hs m (by omega);rw[Go.Lib.compactUpTo_succ];by_cases hk:Go.Lib.keeps d m=true
  .rw[if_pos hk];simp only[Go.Lib.keeps,decide_eq_true_eq]at hk;refine⟨?_,fun x=>?_⟩
   .rw[List.pairwise_append];refine⟨h1,by simp,fun a ha b hb=>?_⟩;simp at hb;subst hb;obtain⟨j,hj,rfl⟩:=(h2 a).1 ha;have h3:=hs j (m-1) (by omega) (by omega);have h4:=hs (m-1) m (by omega) (by omega);omega
   grind
  .rw[if_neg hk,List.append_nil];simp only[Go.Lib.keeps,decide_eq_true_eq,not_or,Decidable.not_not]at hk;grind
theorem apb{l:List Int}(hl:l.Pairwise (·<=·)):(Go.Lib.compact l).Pairwise (·<·)/\∀x,x∈Go.Lib.compact l<->x∈l:=by
 have h:=acz l.toArray (fun i j nf hj=>by
  have jU:j<l.length:=by simpa using hj
  have qI:i<l.length:=by omega
  rw[getElem!_pos _ i (by simpa using qI),getElem!_pos _ j hj];rcases Nat.lt_or_ge i j with h|h
  .exact(List.pairwise_iff_getElem.1 hl) i j qI jU h
  grind) l.length (by simp)
 refine⟨h.1,fun x=>?_⟩;have:=h.2 x;rw[show Go.Lib.compact l=Go.Lib.compactUpTo l.toArray l.length from rfl,this,List.mem_iff_getElem];constructor
 .grind
 .rintro⟨j,hj,e⟩;refine⟨j,hj,?_⟩;grind
end Go.aS
namespace Go.Proofs.YtmfjlankeocaoaaGreatDoor.Fr
open Go Go.Proofs Go.aS
theorem aoT(l):(l.mergeSort fun x y=>decide (x<=y))=qO l:=by refine abb ?_ (List.mergeSort_perm _ _);have:=List.pairwise_mergeSort (le:=fun x y:Int=>decide (x<=y)) (fun a b c h1 h2=>by simp at h1 h2|-;omega) (fun a b=>by simp;omega) l;grind
theorem aoU(Γ i c T l pad h)(hi:h[i]? =some (.row (encI l++pad) T))(hl:l.length<=1000000000):
  az Tryz.prog Γ 123 [.ms i 0 l.length c 1] h fun v h'=>v= .tuple []/\h'=h.set i (.row (encI (qO l)++pad) T):=by
 have:=aoN (Γ:=Γ) Tryz.aoP (f:=123) (by kernel_rfl) (enters_of Tryz.func123 (by kernel_rfl) rfl) i c T l pad h hi (by omega);rw[aoT]at this;exact this
def EO(x y:Int):Int:=if x<y then-1 else if y<x then 1 else 0
theorem ao3(Γ x y h):AC Γ 246 [.int .i64 x,.int .i64 y] h (.int .i64 (EO x y)):=by
 refine cY [.tmp 4] Tryz.func246 ?_;refine bL (JR Γ x _) ?_;refine bL (JR Γ y _) ?_;refine aJ.intro (fun h1=>?_) (fun h1=>?_)<;>simp(disch:=omega) only[go_sem,seval]
 .simp[EO,h1]
 refine aJ.intro (fun h2=>?_) (fun h2=>?_)<;>simp(disch:=omega) only[go_sem,seval]
 .simp[EO,h1,h2]
 .simp[EO,h1,h2]
def vl:List Int->List Int->Int
 |[],[]=>0
 |[],_::_=>-1
 |_::_,[]=>1
 |x::a,y::b=>if x<y then-1 else if y<x then 1 else vl a b
theorem TN(Γ a b h)(ha:a.length<=1000000)(hb:b.length<=1000000):
  AC Γ 193 [.sl (encI a) .free,.sl (encI b) .free] h (.int .i64 (vl a b)):=by
 refine az.drop ?_;refine cS [.tmp 4] Tryz.func193 ?_;simp(disch:=omega) only[go_sem,seval,cc];refine d_ (β:=Unit) a [0,1,9,10,11] (fun ae _=>[(0,.sl (encI a) .free),(1,.sl (encI b) .free),(9,.sl (encI a) .free),(10,.int .i64 a.length),(11,.int .i64 ae.length)]) (fun _=>h) (fun ae rest _=>ae.length<=b.length/\vl a b=vl rest (b.drop ae.length)) () ?_ rfl ⟨by simp,by simp⟩ ?_ ?_
 .simp(disch:=omega) only[go_sem,seval]
 .rintro ae x r _ rfl ⟨hle,hx⟩;have vg:=tS ha;have e1:(encI (ae++x::r))[ae.length]? =some (.int .i64 x):=by simp[encI]
  simp(disch:=omega) only[go_sem,seval,List.length_append,List.length_cons];refine aJ.pos (by omega) ?_;simp(disch:=omega) only[go_sem,seval,cc,List.length_cons,e1];by_cases hlb:ae.length=b.length
  .refine bu (aJ.pos (by omega)) ?_;rw[hx,hlb,List.drop_length];rfl
  .refine aJ.neg (by omega) ?_;obtain⟨d2,y,r2,rfl,hd⟩:∃d2 y r2,b=d2++y::r2/\d2.length=ae.length:=by refine⟨b.take ae.length,b[ae.length]'(by omega),b.drop (ae.length+1),?_,by simp;omega⟩;simp_all
   have e2:(encI (d2++y::r2))[ae.length]? =some (.int .i64 y):=by rw[<-hd];simp[encI]
   have e3:(d2++y::r2).drop ae.length=y::r2:=by rw[<-hd,List.drop_left]
   have e4:(d2++y::r2).drop (ae.length+1)=r2:=by rw[<-hd];simp
   rw[e3,vl]at hx;simp(disch:=omega) only[go_sem,seval,List.length_append,List.length_cons,e2];refine az.cv (ao3 Γ x y _) ?_;simp(disch:=omega) only[go_sem,seval];by_cases vh:x<y
   .rw[if_pos vh]at hx;rw[EO,if_pos vh];refine aU ?_;rw[hx]
   .rw[if_neg vh]at hx;by_cases uY:y<x
    .rw[if_pos uY]at hx;rw[EO,if_neg vh,if_pos uY];refine aU ?_;rw[hx]
    .rw[if_neg uY]at hx;rw[EO,if_neg vh,if_neg uY];refine aU ?_;refine cd () ⟨?_,?_⟩ ?_ rfl
     .simp;omega
     .grind
     .simp(disch:=omega) only[go_sem,seval,List.length_append]
 .intro _ ⟨hle,hx⟩;simp(disch:=omega) only[go_sem,seval];refine jL [0,1] ?_;simp(disch:=omega) only[go_sem,seval,cc];by_cases dN:a.length<b.length
  .refine bu (aJ.pos (by omega)) ?_;obtain⟨y,r,he⟩:∃y r,b.drop a.length=y::r:=by
    cases hd:b.drop a.length with
    |nil=>have:=List.drop_eq_nil_iff.1 hd;omega
    |cons y r=>exact⟨y,r,rfl⟩
   rw[hx,he];rfl
  .refine bu (aJ.neg (by omega)) ?_;rw[hx,List.drop_of_length_le (by omega)];rfl
def x7(a b:List Int):Int:=if a.length=b.length then vl a b else(a.length:Int)-b.length
theorem ao4(Γ a b h)(ha:a.length<=1000000)(hb:b.length<=1000000):
  AC Γ 131 [.sl (encI a) .free,.sl (encI b) .free] h (.int .i64 (x7 a b)):=by
 refine az.drop ?_;refine cS [.tmp 4] Tryz.func131 ?_;simp(disch:=omega) only[go_sem,seval,cc];by_cases nj:a.length=b.length
 .refine bu (aJ.pos (by omega)) ?_;refine bL (TN Γ a b _ ha hb) ?_;rw[x7,if_pos nj]
 .refine aJ.neg (by omega) ?_;simp(disch:=omega) only[go_sem,seval,cc];rw[x7,if_neg nj]
theorem Ud:∀a b:List Int,a.length=b.length->(vl a b<0<->r_ a b=true)/\(vl a b=0<->a=b)/\(vl b a<0<->0<vl a b)
 |[],[],_=>by simp[vl,r_]
 |[],_::_,h=>by simp at h
 |_::_,[],h=>by simp at h
 |x::a,y::b,h=>by have ih:=Ud a b (by simpa using h);rw[vl,vl,r_];grind
theorem lex_trans:∀a b c:List Int,a.length=b.length->b.length=c.length->r_ a b=true->r_ b c=true->r_ a c=true
 |[],_,_,_,_,h,_=>by simp[r_]at h
 |_::_,[],_,h,_,_,_=>by simp at h
 |_::_,_::_,[],_,h,_,_=>by simp at h
 |x::a,y::b,z::c,h1,h2,h3,h4=>by
  rw[r_]at h3 h4|-;split at h3
  .rename_i e1;subst e1;split at h4
   .rename_i e2;rw[if_pos e2];exact lex_trans a b c (by simpa using h1) (by simpa using h2) h3 h4
   grind
  grind
theorem OS(a b):x7 a b<0<->beforeF a b=true:=by
 unfold x7 beforeF;split
 .rename_i h;exact(Ud a b h).1
 .simp;omega
theorem before_trans{a b c}(h1:beforeF a b=true)(h2:beforeF b c=true):beforeF a c=true:=by
 unfold beforeF at*;split at h1
 .rename_i e1;split at h2
  .rename_i e2;rw[if_pos (by omega)];exact lex_trans a b c e1 e2 h1 h2
  grind
 grind
theorem before_total{a b}(h1:beforeF a b=false)(h2:beforeF b a=false):a=b:=by
 have h3:¬x7 a b<0:=fun e=>by rw[(OS a b).1 e]at h1;cases h1
 have h4:¬x7 b a<0:=fun e=>by rw[(OS b a).1 e]at h2;cases h2
 unfold x7 at h3 h4;split at h3
 .rename_i e;rw[if_pos e.symm]at h4;have:=Ud a b e;grind
 omega
theorem OT(a):beforeF a a=false:=by unfold beforeF;rw[if_pos rfl];exact acp a
theorem ao5:Go.Sort.SWO fun x y=>decide (x7 x y<0):=by
 have e:(fun x y=>decide (x7 x y<0))=beforeF:=by funext x y;rw[Bool.eq_iff_iff,decide_eq_true_eq];exact OS x y
 rw[e];refine⟨OT,fun x y z=>before_trans,fun x y z h1 h2=>?_⟩;cases h3:beforeF x z with
 |false=>rfl
 |true=>
  cases h4:beforeF y x with
  |true=>rw[before_trans h4 h3]at h2;cases h2
  |false=>
   have:=before_total h1 h4;grind
theorem ao6(Γ i c T xs pad h)(hi:h[i]? =some (.row (bD xs++pad) T))(hl:xs.length<=1000000000)(hb:∀x∈xs,x.length<=1000000):
  az Tryz.prog Γ 130 [.ms i 0 xs.length c 1,.func 131 [] []] h fun v h'=>v= .tuple []/\∃vj,vj.Perm xs/\vj.Pairwise (fun a b=>beforeF b a=false)/\h'=h.set i (.row (bD vj++pad) T):=by
 refine(aoZ (Γ:=Γ) Tryz.aoR (f:=130) (by kernel_rfl) (enters_of Tryz.func130 (by kernel_rfl) rfl) (g:=131) (enters_of Tryz.func131 (by kernel_rfl) rfl)
  x7 ao5 (fun x y hx hy=>ao4 _ x y [] hx hy) i c T xs pad h hi (by omega) hb).mono ?_
 rintro v h' ⟨rfl,vj,h1,h2,h3⟩;refine⟨rfl,vj,h1,h2.imp fun {a b} nj=>?_,h3⟩;cases h4:beforeF b a with
 |false=>rfl
 |true=>exact absurd ((OS b a).2 h4) nj
mutual
def sa:Gt->List Int
 | .mk p _ l=>if 0<=p then[p]else pF l
def pF:List Gt->List Int
 |[]=>[]
 |x::r=>sa x++pF r
end
theorem acw:∀a b:List Gt,pF (a++b)=pF a++pF b
 |[],_=>rfl
 |x::a,b=>by simp only[List.cons_append,pF,acw a b,List.append_assoc]
mutual
theorem Ue:∀g:Gt,((sa g).length:Int)<=js g
 | .mk p n l=>by
  have h1:=CF (.mk p n l);rw[sa];split
  .simpa using h1
  .have:=Uf l;rw[js];split
   .rename_i he;cases l with
    |nil=>simp[pF]
    |cons x r=>simp at he
   .exact this
theorem Uf:∀l:List Gt,((pF l).length:Int)<=gF l
 |[]=>by simp[pF,gF]
 |x::r=>by have h1:=Ue x;have h2:=Uf r;rw[pF,gF,List.length_append];omega
end
structure GaS where
 v:AV
 j:AH
theorem acx(Γ:GG):∀(k:Nat) (g:Gt) (h:AH),SizeOf.sizeOf g<k->Sh g->js g<=1000->
  az Tryz.prog Γ 122 [bM g] h fun v h'=>∃j,h'=h++j/\nx h.length j 3 v (encI (sa g))
 |0,_,_,hk,_,_=>absurd hk (Nat.not_lt_zero _)
 |k+1,.mk p n l,h,cj,hs,hb=>by
  refine Ko (rs:=[.tmp 2]) Tryz.func122 rfl rfl rfl rfl rfl Ty.mixed (by kernel_rfl) ?_;simp only[iu];refine aU ?_;refine aJ.intro (fun h1=>?_) (fun h1=>?_)<;>simp(disch:=omega) only[go_sem,seval]
  .refine⟨by omega,rfl,by simp[AV.cells,AV.one],?_⟩;refine aU ?_;refine⟨_,rfl,.inr ⟨1,1,[],?_,?_,?_,by simp⟩⟩
   .simp[encI,sa,h1]
   .simp[encI,sa,h1,flat,AV.cells]
   .simp[encI,sa,h1]
  have nN:=hs.len;have j7:=hs.mem;obtain⟨K,hK⟩:∃K:AH,K=h++[.row [.int .i64 p,.int .i64 n,.sl (l.map bM) .free] 49]:=⟨_,rfl⟩;have Kl:K.length=h.length+1:=by rw[hK];simp
  have KD:∀j:AH,∃l,K++j=h++l:=by subst hK;intro j;exact⟨_,List.append_assoc ..⟩
  have Kj:∀(j:AH) r,(K++(j++[r]))[h.length+1+j.length]? =some r:=by intro j r;rw[<-Kl,nK];simp
  have Sj:∀(j:AH) r r',(K++(j++[r])).set (h.length+1+j.length) r'=K++(j++[r']):=by intro j r r';rw[<-Kl,mq];simp
  have Kx:∀(j:AH) r j2,(K++(j++[r])++j2)[h.length+1+j.length]? =some r:=by intro j r j2;rw[List.append_assoc,<-Kl,nK];simp
  rw[<-hK];have qz:gF l<=1000:=by
   rw[js]at hb;split at hb
   .rename_i he;cases l with
    |nil=>simp[gF]
    |cons x r=>simp at he
   .exact hb
  refine oO (β:=GaS) l [2,12,13,14,1000000] (fun ae s=>[(2,s.v),(12,.sl (l.map bM) .free),(13,.int .i64 l.length),(14,.int .i64 ae.length),(1000000,.tuple [])])
   (fun s=>K++s.j) (fun ae _ s=>nx K.length s.j 3 s.v (encI (pF ae))) ⟨.sl [] .full,[]⟩ ?_ (by simp) (.inl ⟨rfl,rfl⟩) Ty.mixed (by kernel_rfl) ?_ ?_
  .simp(disch:=omega) only[go_sem,seval]
  .rintro ae x r ⟨v,j⟩ rfl hv;simp only at hv|-;have vg:=tS nN;simp(disch:=omega) only[go_sem,seval,List.map_append,List.map_cons,List.length_append];refine aJ.pos (by omega) ?_;simp(disch:=omega) only[go_sem,seval,Kl,Kj,Sj];have Gb:js x<=1000/\((pF ae).length:Int)+(sa x).length<=1000:=by
    have e:∀a b:List Gt,gF (a++b)=gF a+gF b:=fun a b=>by
     induction a with
     |nil=>simp[gF]
     |cons y a ih=>simp only[List.cons_append,gF,ih];omega
    have e1:=e ae (x::r);rw[gF]at e1;have e2:=Uf ae;have e3:=Ue x;have e4:=CG r;have e5:=CG ae;omega
   refine az.then (acx Γ k x _ (CE (by simp) cj) (j7 x (by simp)) Gb.1) ?_
   rintro v2 _ ⟨j2,rfl,hv2⟩;simp(disch:=omega) only[go_sem,seval,List.append_assoc];have tv:=hv2.src;rw[List.append_assoc,List.append_assoc,List.cons_append,List.nil_append]at tv;refine anF (xs:=encI (pF ae)) (ys:=encI (sa x)) (hv.more _) tv (lL _) (Oz _) (by simp only[cc];omega) (by simp only[cc];omega) fun v' j' oa _=>?_;refine aU ?_;refine cd ⟨v',j'⟩ ?_ ?_ rfl
   .rw[TB]at oa;have e:pF ae++sa x=pF (ae++[x]):=by simp[acw,pF]
    rw[e,Kl]at oa;exact oa
   .simp(disch:=omega) only[go_sem,seval,List.length_append]
  .rintro⟨v,j⟩ hv;simp only at hv|-;simp(disch:=omega) only[go_sem,seval];refine fE [2] ?_;refine⟨[.row [.int .i64 p,.int .i64 n,.sl (l.map bM) .free] 49]++j,by rw[hK,List.append_assoc],nx.shift ?_⟩;rw[sa,if_neg h1];rw[Kl]at hv;exact hv
theorem ao9(Γ g h)(hs:Sh g)(hb:js g<=1000):
  az Tryz.prog Γ 122 [bM g] h fun v h'=>∃j,h'=h++j/\nx h.length j 3 v (encI (sa g)):=acx Γ _ g h (Nat.lt_succ_self _) hs hb
def fS:List Int->Nat->List Int
 |[],_=>[]
 |x::r,s=>if s%2=1 then x::fS r (s/2)else fS r (s/2)
theorem uf:∀(l:List Int) (s:Nat),(fS l s).Sublist l
 |[],_=> .slnil
 |x::r,s=>by
  rw[fS];split
  .exact .cons_cons _ (uf r _)
  .exact .cons _ (uf r _)
theorem Ug:∀(l:List Int) (s m:Nat) (p:Int),l.Nodup->l[m]? =some p->(p∈fS l s<->s/2^m%2=1)
 |[],_,_,_,_,h=>by simp at h
 |x::r,s,0,p,hn,h=>by rw[List.nodup_cons]at hn;simp at h;subst h;have hx:x∉fS r (s/2):=fun e=>hn.1 ((uf r _).subset e);rw[fS,Nat.pow_zero,Nat.div_one];grind
 |x::r,s,m+1,p,hn,h=>by rw[List.nodup_cons]at hn;have hp:p∈r:=List.mem_of_getElem? (by simpa using h);have cV:p≠x:=fun e=>hn.1 (e▸hp);have ih:=Ug r (s/2) m p hn.2 (by simpa using h);rw[Nat.div_div_eq_div_mul,<-Nat.pow_succ']at ih;rw[fS];grind
theorem apc(Γ l x h)(hl:l.length<=9223372036854775807)(hx:x∈l):
  az Tryz.prog Γ 126 [.sl (encI l) .free,.int .i64 x] h fun v h'=>h'=h/\∃m:Nat,v= .int .i64 m/\l[m]? =some x:=by
 refine cY [.tmp 4] Tryz.func126 ?_;refine oO (β:=Unit) l [8,7,1,0] (fun ae _=>[(8,.int .i64 ae.length),(7,.int .i64 l.length),(1,.int .i64 x),(0,.sl (encI l) .free)])
   (fun b=>h) (fun ae rest b'=>x∈rest) () ?_ rfl hx Ty.mixed (by kernel_rfl) ?_ ?_
 .simp(disch:=omega) only[go_sem,seval,cc]
 .rintro ae y r _ rfl hs;have vg:=tS hl;have e1:(encI (ae++y::r))[ae.length]? =some (.int .i64 y):=by simp[encI]
  simp(disch:=omega) only[go_sem,seval,List.length_append,List.length_cons];refine aJ.pos (by omega) ?_;simp(disch:=omega) only[go_sem,seval,List.length_cons,e1];refine aJ.intro (fun h1=>?_) (fun h1=>?_)<;>simp(disch:=omega) only[go_sem,seval]
  .grind
  .refine cd () ?_ ?_ rfl
   .grind
   .simp(disch:=omega) only[go_sem,seval,List.length_append]
 .intro _ hs;simp at hs
theorem Uh(q:Nat)(hq:q<4096):BE .and .u64 (q) 1=(q%2:Nat):=by
 have h1:(BitVec.ofInt 64 (q:Int)&&&BitVec.ofInt 64 1).toNat=q%2:=by rw[BitVec.toNat_and,show(BitVec.ofInt 64 1).toNat=1 from rfl,BitVec.ofInt_natCast,BitVec.toNat_ofNat,Nat.and_one_is_mod];omega
 show IntKind.u64.wrap ((BitVec.ofInt 64 (q:Int)&&&BitVec.ofInt 64 1).toNat:Int)=_;rw[h1,IntWalk.u64_in _ ⟨by omega,by omega⟩]
def CO(i j:Nat):AV:= .func 125 [] [.ptr (some (i,0)),.ptr (some (j,0))]
theorem acA(Γ:GG)(P:List Int)(s:Nat)(Ui:s<4096)(hP:P.length<=12)(hn:P.Nodup):∀(k:Nat) (g:Gt) (h:AH) (i j:Nat),SizeOf.sizeOf g<k->Sh g->(∀p,r9 p g=true->p∈P)->h[i]? =some (.row [.sl (encI P) .free] 30)->h[j]? =some (.row [CO i j] 188)->
  AC Γ 125 [bM g,.int .u64 s,.ptr (some (i,0)),.ptr (some (j,0))] h (.bool (A2 (fun p=>decide (p∈fS P s)) g))
 |0,_,_,_,_,hk,_,_,_,_=>absurd hk (Nat.not_lt_zero _)
 |k+1,.mk p n l,h,i,j,cj,hs,oS,hi,hj=>by
  have qI:=xA hi;have jU:=xA hj;refine az.drop ?_;refine cS [.tmp 6] Tryz.func125 ?_;simp only[iu];refine aU ?_;refine aJ.intro (fun h1=>?_) (fun h1=>?_)<;>simp(disch:=omega) only[go_sem,seval]
  .simp(disch:=omega) only[go_sem,seval,Ay _ qI,hi];refine az.then (apc Γ P p _ (by omega) (oS p (by simp[r9,h1]))) ?_
   rintro _ _ ⟨rfl,m,rfl,hm⟩;have aCm:m<P.length:=(List.getElem?_eq_some_iff.1 hm).1;have JB:s/2^m<=s:=Nat.div_le_self _ _;refine aU ?_;rw[Nat.min_eq_left (by omega),fdiv_pow,Uh _ (by omega)];rw[A2,if_pos h1];congr 1;rw[decide_eq_decide,Ug P s m p hn hm];omega
  have nN:=hs.len;have j7:=hs.mem;obtain⟨K,hK⟩:∃K:AH,K=h++[.row [.int .i64 p,.int .i64 n,.sl (l.map bM) .free] 49]:=⟨_,rfl⟩;have Kl:K.length=h.length+1:=by rw[hK];simp
  have KD:∀j:AH,∃l,K++j=h++l:=by subst hK;intro j;exact⟨_,List.append_assoc ..⟩
  have Kg:∀j:AH,(K++j)[h.length]? =some (.row [.int .i64 p,.int .i64 n,.sl (l.map bM) .free] 49):=by subst hK;simp
  have Kj:∀(j:AH) r,(K++(j++[r]))[h.length+1+j.length]? =some r:=by intro j r;rw[<-Kl,nK];simp
  have Sj:∀(j:AH) r r',(K++(j++[r])).set (h.length+1+j.length) r'=K++(j++[r']):=by intro j r r';rw[<-Kl,mq];simp
  have Ki:∀J:AH,(K++J)[i]? =some (.row [.sl (encI P) .free] 30):=fun J=>by grind
  have Ke:∀J:AH,(K++J)[j]? =some (.row [CO i j] 188):=fun J=>by grind
  rw[<-hK];refine oO (β:=AH) l [1,2,3,4,7,22,23,24] (fun ae _=>[(1,.int .u64 s),(2,.ptr (some (i,0))),(3,.ptr (some (j,0))),(4,.ptr (some (h.length,0))),(7,.int .i64 (qP (fun p=>decide (p∈fS P s)) ae)),(22,.sl (l.map bM) .free),(23,.int .i64 l.length),(24,.int .i64 ae.length)])
   (fun J=>K++J) (fun _ _ _=>True) [] ?_ (by simp) trivial Ty.mixed (by kernel_rfl) ?_ ?_
  .simp(disch:=omega) only[go_sem,seval];simp[qP]
  .rintro ae x r J rfl _;have vg:=tS nN;have hrc:=anu (fun p=>decide (p∈fS P s)) ae;simp(disch:=omega) only[go_sem,seval,List.map_append,List.map_cons,List.length_append];refine aJ.pos (by omega) ?_;simp(disch:=omega) only[go_sem,seval,Kl,Kj,Sj,Ke,CO];refine az.cv (acA Γ P s Ui hP hn k x _ i j (CE (by simp) cj) (j7 x (by simp)) (fun q hq=>oS q ?_) (Ki _) (Ke _)) ?_
   .have e:∀a b:List Gt,nV q (a++b)=(nV q a||nV q b):=fun a b=>by
     induction a with
     |nil=>simp[nV]
     |cons y a ih=>simp only[List.cons_append,nV,ih,Bool.or_assoc]
    simp[r9,e,nV,hq]
   refine aU ?_;refine lH.intro (fun hb=>?_) (fun hb=>?_)<;>simp(disch:=omega) only[go_sem,seval]
   .refine cd (J++[.row (bM x).cells 49]) trivial ?_ rfl;simp(disch:=omega) only[go_sem,seval,List.length_append];simp[abc,qP,hb]
   .refine cd (J++[.row (bM x).cells 49]) trivial ?_ rfl;simp(disch:=omega) only[go_sem,seval,List.length_append];simp[abc,qP,hb]
  .intro J _;simp(disch:=omega) only[go_sem,seval];refine jL [4,7] ?_;simp(disch:=omega) only[go_sem,seval,Kg];refine⟨KD J,?_⟩;rw[A2,if_neg h1]
theorem apf(Γ P)(s:Nat)(Ui:s<4096)(hP:P.length<=12)(hn:P.Nodup)(g h i j)(hs:Sh g)(oS:∀p,r9 p g=true->p∈P)(hi:h[i]? =some (.row [.sl (encI P) .free] 30))(hj:h[j]? =some (.row [CO i j] 188)):
  AC Γ 125 [bM g,.int .u64 s,.ptr (some (i,0)),.ptr (some (j,0))] h (.bool (A2 (fun p=>decide (p∈fS P s)) g)):=
 acA Γ P s Ui hP hn _ g h i j (Nat.lt_succ_self _) hs oS hi hj
theorem Uk{α:Type}{R:α->α->Prop}(irr:∀a,¬R a a)(tr:∀a b c,R a b->R b c->R a c):∀a b:List α,a.Pairwise R->b.Pairwise R->(∀x,x∈a<->x∈b)->a=b
 |[],[],_,_,_=>rfl
 |[],y::b,_,_,h=>by have:=(h y).2 (by simp);simp at this
 |x::a,[],_,_,h=>by have:=(h x).1 (by simp);simp at this
 |x::a,y::b,ha,hb,h=>by
  rw[List.pairwise_cons]at ha hb;have vh:x=y:=by
   rcases List.mem_cons.1 ((h x).1 (by simp))with e|e
   .exact e
   rcases List.mem_cons.1 ((h y).2 (by simp))with f|f
   .exact f.symm
   grind
  subst vh;congr 1;refine Uk irr tr a b ha.2 hb.2 fun z=>⟨fun hz=>?_,fun hz=>?_⟩
  .grind
  grind
theorem lt_eq{a b:List Int}(ha:a.Pairwise (·<·))(hb:b.Pairwise (·<·))(h:∀x,x∈a<->x∈b):a=b:=
 Uk (R:=(·<·)) (fun _=>Int.lt_irrefl _) (fun _ _ _=>Int.lt_trans) a b ha hb h
theorem api{a b:List (List Int)}(ha:a.Pairwise fun x y=>beforeF x y=true)(hb:b.Pairwise fun x y=>beforeF x y=true)(h:∀x,x∈a<->x∈b):a=b:=
 Uk (R:=fun x y=>beforeF x y=true) (fun x e=>by rw[OT]at e;cases e) (fun _ _ _=>before_trans) a b ha hb h
theorem acB{l}(hl:l.Pairwise (·<·)):(A3 l).Pairwise fun a b=>beforeF a b=true:=
 (acq l hl _).imp fun {a b} h=>by rw[beforeF];grind
theorem OU{l:List Int}(h:l.Pairwise (·<·)):l.Nodup:=h.imp fun h=>by omega
theorem apj{l:List (List Int)}(h:l.Pairwise fun a b=>beforeF a b=true):l.Nodup:=h.imp fun {a b} h e=>by subst e;rw[OT]at h;cases h
def CP(P:List Int)(fine:List Int->Bool):Prop:=∀s t:List Int,s.Sublist P->t.Sublist P->(∀x∈s,x∈t)->fine s=true->fine t=true
def A7(P:List Int)(fine:List Int->Bool)(s:List Int):Prop:=s.Sublist P/\fine s=true/\∀t:List Int,t.Sublist P->fine t=true->(∀x∈t,x∈s)->t=s
def GU(fine:List Int->Bool):List (List Int)->List (List Int)->List (List Int)
 |out,[]=>out
 |out,s::r=>if fine s&&out.all (fun o=>!decide (∀x∈o,x∈s))then GU fine (out++[s]) r else GU fine out r
def qa(P:List Int)(fine:List Int->Bool):List (List Int):=GU fine [] (A3 P)
theorem acC{P:List Int}{fine:List Int->Bool}(hP:P.Pairwise (·<·)):∀(n:Nat) (s:List Int),s.length<=n->s.Sublist P->fine s=true->∃t,A7 P fine t/\∀x∈t,x∈s
 |n,s,hn,hs,hf=>by
  by_cases h:∃t:List Int,t.Sublist P/\fine t=true/\(∀x∈t,x∈s)/\t≠s
  .obtain⟨t,h1,h2,h3,h4⟩:=h;have rB:t.Sublist s:=KG s t (hP.sublist h1) (hP.sublist hs) h3;have dN:t.length<s.length:=Nat.lt_of_le_of_ne rB.length_le fun e=>h4 (rB.eq_of_length e);cases n with
   |zero=>omega
   |succ n=>
    obtain⟨u,k1,k2⟩:=acC hP n t (by omega) h1 h2;grind
  .exact⟨s,⟨hs,hf,fun t h1 h2 h3=>Classical.byContradiction fun h4=>h ⟨t,h1,h2,h3,h4⟩⟩,fun x hx=>hx⟩
theorem acD{P fine}(hP:P.Pairwise (·<·)){s}(hs:s.Sublist P)(hf:fine s=true):∃t,A7 P fine t/\∀x∈t,x∈s:=acC hP _ s (Nat.le_refl _) hs hf
theorem OV{P:List Int}{fine:List Int->Bool}(hP:P.Pairwise (·<·)):∀(r ae out:List (List Int)),A3 P=ae++r->out.Sublist ae->(∀s,s∈out<->s∈ae/\A7 P fine s)->
  (GU fine out r).Sublist (A3 P)/\∀s,s∈GU fine out r<->A7 P fine s
 |[],ae,out,e,h1,h2=>by rw[List.append_nil]at e;refine⟨by rw[e];exact h1,fun s=>?_⟩;show s∈out<->_;rw[h2];exact⟨fun h=>h.2,fun h=>⟨by rw[<-e,Ua];exact h.1,h⟩⟩
 |s::r,ae,out,e,h1,h2=>by
  have vo:=acB hP;rw[e,List.pairwise_append]at vo;have hs:s.Sublist P:=by rw[<-Ua,e];simp
  have aCo:(fine s&&out.all (fun o=>!decide (∀x∈o,x∈s)))=true<->A7 P fine s:=by
   rw[Bool.and_eq_true,List.all_eq_true];constructor
   .rintro⟨k1,k2⟩;refine⟨hs,k1,fun t j1 j2 j3=>Classical.byContradiction fun cV=>?_⟩;obtain⟨u,m1,m2⟩:=acD hP j1 j2;have hus:∀x∈u,x∈s:=fun x hx=>j3 x (m2 x hx);have TW:u.length<s.length:=by have a1:=(KG t u (hP.sublist m1.1) (hP.sublist j1) m2).length_le;have a2:=KG s t (hP.sublist j1) (hP.sublist hs) j3;have:=Nat.lt_of_le_of_ne a2.length_le fun e=>cV (a2.eq_of_length e);omega
    have X0:u∈ae:=by
     have hu:u∈A3 P:=(Ua _ _).2 m1.1;rw[e]at hu;rcases List.mem_append.1 hu with hu|hu
     .exact hu
     rcases List.mem_cons.1 hu with rfl|hu
     .omega
     have:=(List.pairwise_cons.1 vo.2.1).1 u hu;rw[beforeF,if_neg (by omega)]at this;simp at this;omega
    grind
   .intro hm;refine⟨hm.2.1,fun o ho=>?_⟩;have ho:=(h2 o).1 ho;simp only[Bool.not_eq_true',decide_eq_false_iff_not];intro oS;have heq:=hm.2.2 o ho.2.1 ho.2.2.1 oS;subst heq;have:=vo.2.2 o ho.1 o (by simp);rw[OT]at this;cases this
  rw[GU];split
  .rename_i hc;refine OV hP r (ae++[s]) (out++[s]) (by rw[e];simp) (List.Sublist.append h1 (List.Sublist.refl _)) fun t=>?_;grind
  .rename_i hc;refine OV hP r (ae++[s]) out (by rw[e];simp) (h1.trans (List.sublist_append_left _ _)) fun t=>?_;grind
theorem acE{P}(fine)(hP:P.Pairwise (·<·)):(qa P fine).Pairwise fun a b=>beforeF a b=true:=
 (acB hP).sublist (OV (fine:=fine) hP (A3 P) [] [] rfl (List.Sublist.refl _) (by simp)).1
theorem zu{P fine}(hP:P.Pairwise (·<·))(s):s∈qa P fine<->A7 P fine s:=
 (OV hP (A3 P) [] [] rfl (List.Sublist.refl _) (by simp)).2 s
theorem apk{P fine}(hP:P.Pairwise (·<·)){l}(hn:l.Nodup)(hl:l.Pairwise fun a b=>beforeF b a=false)(hm:∀s,s∈l<->A7 P fine s):l=qa P fine:=by
 refine api ?_ (acE fine hP) fun s=>(hm s).trans (zu hP s).symm;refine(hn.and hl).imp fun {a b} h=>?_;cases hb:beforeF a b with
 |true=>rfl
 |false=>exact absurd (before_total hb h.2) h.1
def andNot(a b:Nat):Nat:=(BitVec.ofNat 64 a&&&~~~BitVec.ofNat 64 b).toNat
theorem KJ(a b j)(hj:j<64):(andNot a b).testBit j=(a.testBit j&&!b.testBit j):=by rw[andNot,BitVec.testBit_toNat,BitVec.getLsbD_and,BitVec.getLsbD_not,BitVec.getLsbD_ofNat,BitVec.getLsbD_ofNat];grind
theorem Ul(a b)(ha:a<2^64):andNot a b<=a:=by rw[andNot,BitVec.toNat_and,BitVec.toNat_ofNat,Nat.mod_eq_of_lt ha];exact Nat.and_le_left
theorem apl(s m):s/2^m%2=1<->s.testBit m=true:=by grind
theorem x8{l s m p}(hn:l.Nodup)(h:l[m]? =some p):p∈fS l s<->s.testBit m=true:=by rw[Ug l s m p hn h,apl]
theorem apm{P t}(h:t.Sublist P):∃s,s<2^P.length/\fS P s=t:=by
 induction h with
 |slnil=>exact⟨0,by simp,rfl⟩
 | @cons a b x _ ih=>
  obtain⟨s,h1,h2⟩:=ih;refine⟨2*s,by simp[Nat.pow_succ];omega,?_⟩;rw[fS,if_neg (by omega),Nat.mul_div_cancel_left _ (by decide)];exact h2
 | @cons_cons a b x _ ih=>
  obtain⟨s,h1,h2⟩:=ih;refine⟨2*s+1,by simp[Nat.pow_succ];omega,?_⟩;rw[fS,if_pos (by omega),show(2*s+1)/2=s from by omega,h2]
theorem acF:∀(P:List Int) (s t:Nat),P.Nodup->s<2^P.length->t<2^P.length->fS P s=fS P t->s=t
 |[],s,t,_,h1,h2,_=>by simp at h1 h2;omega
 |x::r,s,t,hn,h1,h2,h=>by rw[List.nodup_cons]at hn;rw[List.length_cons,Nat.pow_succ]at h1 h2;have hx:∀s,x∉fS r s:=fun s e=>hn.1 ((uf r _).subset e);have ih:=acF r (s/2) (t/2) hn.2 (by omega) (by omega);simp only[fS]at h;grind
def KM(P:List Int)(fine:List Int->Bool)(s:Nat):Bool:=fine (fS P s)&&(List.range P.length).all fun i=>!s.testBit i||!fine (fS P (andNot s (2^i)))
theorem acG(i j):(2^i:Nat).testBit j=decide (i=j):=Nat.testBit_two_pow
theorem acH{P fine}(hP:P.Pairwise (·<·))(hl:P.length<=12)(hm:CP P fine)(s):KM P fine s=true<->A7 P fine (fS P s):=by
 have hn:=OU hP;have vo:∀m,(fS P m).Pairwise (·<·):=fun m=>hP.sublist (uf P m);rw[KM,Bool.and_eq_true,List.all_eq_true];constructor
 .rintro⟨h1,h2⟩;refine⟨uf P s,h1,fun t k1 k2 k3=>lt_eq (hP.sublist k1) (vo s) fun x=>⟨k3 x,fun hx=>Classical.byContradiction fun hxt=>?_⟩⟩;obtain⟨i,hi,rfl⟩:=List.mem_iff_getElem.1 ((uf P s).subset hx);have qI:P[i]? =some P[i]:=by simp[hi]
  have hb:=(x8 hn qI).1 hx;have:=h2 i (by simpa using hi);rw[hb]at this;simp at this;have hf:=hm t (fS P (andNot s (2^i))) k1 (uf _ _) (fun y hy=>?_) k2
  .rw[this]at hf;cases hf
  .obtain⟨j,hj,rfl⟩:=List.mem_iff_getElem.1 (k1.subset hy);have jU:P[j]? =some P[j]:=by simp[hj]
   rw[x8 hn jU,KJ _ _ _ (by omega),acG,(x8 hn jU).1 (k3 _ hy)];grind
 .rintro⟨h1,h2,h3⟩;refine⟨h2,fun i hi=>?_⟩;rw[List.mem_range]at hi;cases hb:s.testBit i with
  |false=>rfl
  |true=>
   cases hf:fine (fS P (andNot s (2^i)))with
   |false=>rfl
   |true=>
    have qI:P[i]? =some P[i]:=by simp[hi]
    have he:=h3 _ (uf _ _) hf fun x hx=>by
     obtain⟨j,hj,rfl⟩:=List.mem_iff_getElem.1 ((uf P _).subset hx);have jU:P[j]? =some P[j]:=by simp[hj]
     rw[x8 hn jU,KJ _ _ _ (by omega),Bool.and_eq_true]at hx;rw[x8 hn jU];exact hx.1
    have h4:P[i]∈fS P s:=(x8 hn qI).2 hb;rw[<-he,x8 hn qI,KJ _ _ _ (by omega),acG]at h4;simp at h4
def oX(P:List Int)(fine:List Int->Bool)(n:Nat):List (List Int):=((List.range n).filter (KM P fine)).map (fS P)
theorem apn(P fine n):oX P fine (n+1)=oX P fine n++(if KM P fine n then[fS P n]else[]):=by rw[oX,List.range_succ,List.filter_append,List.map_append,oX];grind
theorem acI{P fine}(hP:P.Pairwise (·<·)):(oX P fine (2^P.length)).Nodup:=by rw[oX,List.Nodup,List.pairwise_map];refine List.Pairwise.imp_of_mem (R:=(·≠·)) ?_ (List.Pairwise.filter _ List.nodup_range);intro a b ha hb cV e;simp only[List.mem_filter,List.mem_range]at ha hb;exact cV (acF P a b (OU hP) ha.1 hb.1 e)
theorem acJ{P fine}(hP:P.Pairwise (·<·))(hl:P.length<=12)(hm:CP P fine)(t):t∈oX P fine (2^P.length)<->A7 P fine t:=by
 rw[oX,List.mem_map];constructor
 .rintro⟨s,h1,rfl⟩;simp only[List.mem_filter,List.mem_range]at h1;exact(acH hP hl hm s).1 h1.2
 .intro h;obtain⟨s,h1,rfl⟩:=apm h.1;exact⟨s,by simp only[List.mem_filter,List.mem_range];exact⟨h1,(acH hP hl hm s).2 h⟩,rfl⟩
theorem apo{P fine}(hP:P.Pairwise (·<·))(hl:P.length<=12)(hm:CP P fine){l}(hp:l.Perm (oX P fine (2^P.length)))(hs:l.Pairwise fun a b=>beforeF b a=false):l=qa P fine:=
 apk hP (hp.nodup_iff.2 (acI hP)) hs fun s=>hp.mem_iff.trans (acJ hP hl hm s)
theorem acK{P fine}(hP:P.Pairwise (·<·))(hl:P.length<=12)(hm:CP P fine):(oX P fine (2^P.length)).length=(qa P fine).length:=
 List.Perm.length_eq ((List.perm_ext_iff_of_nodup (acI hP) (apj (acE fine hP))).2 fun s=>(acJ hP hl hm s).trans (zu hP s).symm)
theorem apq{P}(hP:P.Pairwise (·<·))(hl:P.length<=12)(s):fS P (andNot (2^P.length-1) s)=oB P (fS P s):=by
 have hn:=OU hP;refine lt_eq (hP.sublist (uf _ _)) (hP.sublist List.filter_sublist) fun x=>?_;rw[acr];constructor
 .intro hx;have hxP:=(uf P _).subset hx;obtain⟨j,hj,rfl⟩:=List.mem_iff_getElem.1 hxP;have jU:P[j]? =some P[j]:=by simp[hj]
  rw[x8 hn jU,KJ _ _ _ (by omega),Bool.and_eq_true]at hx;refine⟨hxP,fun h=>?_⟩;rw[x8 hn jU]at h;rw[h]at hx;simp at hx
 .rintro⟨h1,h2⟩;obtain⟨j,hj,rfl⟩:=List.mem_iff_getElem.1 h1;have jU:P[j]? =some P[j]:=by simp[hj]
  rw[x8 hn jU]at h2;rw[x8 hn jU,KJ _ _ _ (by omega),Nat.testBit_two_pow_sub_one];simp at h2;simp[h2,hj]
def qQ(g:Gt)(s:List Int):Bool:=eZ g s
def A8(g:Gt)(s:List Int):Bool:=!eZ g (oB (cm g) s)
theorem KO{g}(h:dp g=0){s}(hs:s.Sublist (cm g)):fV (-1) s=true:=T8 hs (OR (zm h))
theorem Um{g}(h:dp g=0):CP (cm g) (qQ g):=fun _ _ hs ht fC hf=>KI h (KO h hs) (KO h ht) (fun x _ hx=>fC x hx) hf
theorem acM{g}(h:dp g=0):CP (cm g) (A8 g):=fun s t hs ht fC hf=>by
 have ha:=OR (zm h);simp only[A8,Bool.not_eq_true']at hf|-;cases hk:eZ g (oB (cm g) t)with
 |false=>rfl
 |true=>
  rw[KI h (acs t ha) (acs s ha) (fun x _ hx=>?_) hk]at hf
  .cases hf
  .rw[acr]at hx|-;grind
theorem wx{g}(h:dp g=0):(cm g).Pairwise (·<·):=aoI (OR (zm h))
end Go.Proofs.YtmfjlankeocaoaaGreatDoor.Fr
