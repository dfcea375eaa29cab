/- Parts of the proof of TopPolicy, joined: AbsQ..LinA. No conditions. -/
import Derived.Test.YtmfjlankeocaoaaGreatDoorMB
import Derived.Test.YtmfjlankeocaoaaGreatDoorRows
import Derived.ProofKit
import Derived.OpenShut
import Derived.JoinedCond
import Derived.Carry
import Derived.Lib.Bytealg
import Derived.WalkKit
import Derived.Lib.Walk
import Derived.Shelf.Strings.OnBuilder
import Derived.Shelf.Strconv.Itoa3
import Derived.Shelf.Strconv.Atoi
import Derived.Test.YtmfjlankeocaoaaGreatDoorProg
import Derived.Shelf.Sort.Plain
import Derived.Shelf.SlSortCmp.Whole1
import Derived.Ground.SlsfProg
import Derived.Shelf.Slices.CompactI
import Derived.Ground.Names2Prog
import Derived.Lib.LaidTab
import Derived.Lib.SmallJoins
set_option linter.all false
set_option maxRecDepth 100000
set_option maxHeartbeats 8000000
namespace Go.aS
open Go Go.RowKit
mutual
def kj{H:Type}:DataW H->AV
 | .lit l=>JU l
 | .nil=> .sl [] .free
 | .slice elems _=> .sl (Cv elems) .free
 | .agg parts=> .agg (NT parts)
 | .ptr _=> .top
 | .iface _ _=> .top
 | .map _=> .top
 | .held _=> .top
def Cv{H:Type}:List (DataW H)->List AV
 |[]=>[]
 |d::r=>kj d::Cv r
def NT{H:Type}:List (DataW H)->List AV
 |[]=>[]
 |d::r=>(kj d).cells++NT r
def JU:Lit->AV
 | .int k n=> .int k n
 | .bool b=> .bool b
 | .string bytes=> .str ⟨bytes.toArray⟩
 |_=> .top
end
theorem S_{H}(l:List (DataW H)):Cv l=l.map kj:=by
 induction l with
 |nil=>rfl
 |cons d r ih=>simp[Cv,ih]
theorem aak{H}(l:List (DataW H)):NT l=(l.map kj).flatMap AV.cells:=by
 induction l with
 |nil=>rfl
 |cons d r ih=>simp[NT,ih]
inductive Typed(P:Program)(B:Nat):TypeId->AV->Prop
 |bool {t:TypeId} {b:Bool} (h:P.underlying t=some .bool):Typed P B t (.bool b)
 |int {t:TypeId} {k:IntKind} {n:Int} (h:P.underlying t=some (.int k)) (h1:k.min<=n) (h2:n<=k.max):Typed P B t (.int k n)
 |str {t:TypeId} {s:ByteArray} (h:P.underlying t=some .string) (h1:s.size<=B):Typed P B t (.str s)
 |sl {t e:TypeId} {rows:List AV} (h:P.underlying t=some (.slice e)) (h1:rows.length<=B) (h2:∀r∈rows,Typed P B e r):Typed P B t (.sl rows .free)
 |struct {t:TypeId} {fs:Array Field} {ps:List AV} (h:P.underlying t=some (.struct fs)) (h1:ps.length=fs.size) (h2:∀(j:Nat) (f:Field) (p:AV),fs[j]? =some f->ps[j]? =some p->Typed P B f.type p):
   Typed P B t (.agg (ps.flatMap AV.cells))
 |array {t e:TypeId} {n:Nat} {ps:List AV} (h:P.underlying t=some (.array n e)) (h1:ps.length=n) (h2:∀p∈ps,Typed P B e p):Typed P B t (.agg (ps.flatMap AV.cells))
def ze(P:Program):List Field->Nat->Nat->Bool
 |[],o,n=>Nat.beq o n
 |f::r,o,n=>Nat.beq f.offset o&&ze P r (o+P.cellsOf f.type) n
def NU(P:Program)(L:List TypeId)(t:TypeId):Bool:=
 match P.underlying t with
 |some .bool|some (.int _)|some .string=>true
 |some (.slice e)=>L.contains e
 |some (.struct fs)=>ze P fs.toList 0 (P.cellsOf t)&&fs.toList.all fun f=>L.contains f.type
 |some (.array n e)=>L.contains e&&Nat.beq (P.cellsOf t) (n*P.cellsOf e)
 |_=>false
def JV(P:Program)(L:List TypeId):Bool:=L.all (NU P L)
theorem JW{w:World}{base a n cs}(h:w.cells? base a n=some cs):cs.length=n/\∀j v,cs[j]? =some v->w.cell? (a.add j)=some v:=by
 unfold World.cells? at h;split at h
 .have hl:=mapM_some_length h;rw[List.length_range]at hl;refine⟨hl,fun j v hv=>?_⟩;have hj:j<n:=hl▸(List.getElem?_eq_some_iff.1 hv).1;rw[<-hv];exact mapM_some_get h j j (by simp[hj])
 .cases h
section
variable {H:Type} {enc:TypeId×Value->H} {P:Program} {w:World} {base:Nat} {spare:Nat->Bool} {held:Bool} {L:List TypeId} {G:Gh}
theorem aal{cs:List Value}:∀(fs:List Field) (ps:List AV) (o n:Nat),ze P fs o n=true->ps.length=fs.length->
  (∀(j:Nat) (f:Field) (p:AV),fs[j]? =some f->ps[j]? =some p->p.cells.length=P.cellsOf f.type/\∀(i:Nat) (c:AV) (v:Value),p.cells[i]? =some c->cs[f.offset+i]? =some v->VR G c v)->
  o+(ps.flatMap AV.cells).length=n/\∀(j:Nat) (c:AV) (v:Value),(ps.flatMap AV.cells)[j]? =some c->cs[o+j]? =some v->VR G c v
 |[],[],o,n,ht,_,_=>by simp only[ze]at ht;simp_all
 |[],_::_,_,_,_,h,_=>by simp at h
 |_::_,[],_,_,_,h,_=>by simp at h
 |f::fs,p::ps,o,n,ht,hl,hv=>by simp only[ze,Bool.and_eq_true]at ht;have ho:=Nat.eq_of_beq_eq_true ht.1;obtain⟨h1,h2⟩:=hv 0 f p rfl rfl;obtain⟨k1,k2⟩:=aal fs ps _ n ht.2 (by simpa using hl) fun j f p hf hp=>hv (j+1) f p (by simpa using hf) (by simpa using hp);grind
theorem aam{cs:List Value}(sz:Nat):∀(ps:List AV) (o:Nat),(∀(j:Nat) (p:AV),ps[j]? =some p->p.cells.length=sz/\∀(i:Nat) (c:AV) (v:Value),p.cells[i]? =some c->cs[o+j*sz+i]? =some v->VR G c v)->
  (ps.flatMap AV.cells).length=ps.length*sz/\∀(j:Nat) (c:AV) (v:Value),(ps.flatMap AV.cells)[j]? =some c->cs[o+j]? =some v->VR G c v
 |[],o,_=>⟨by simp,fun j c v h=>by simp at h⟩
 |p::ps,o,hv=>by
  obtain⟨h1,h2⟩:=hv 0 p rfl;obtain⟨k1,k2⟩:=aam sz ps (o+sz) fun j p hp=>by obtain⟨e1,e2⟩:=hv (j+1) p (by simpa using hp);refine⟨e1,fun i c v hc oa=>e2 i c v hc ?_⟩;rw[<-oa];congr 1;rw[Nat.succ_mul];omega
  grind
theorem aan{a:Addr}(e:a=⟨a.block,a.off,none⟩)(x y):(a.add x).add y=⟨a.block,a.off+x+y,none⟩:=by obtain⟨b,o,s⟩:=a;cases e;unfold Addr.add;grind
theorem NW(hG:∀b o v,w.cell? ⟨b,o,none⟩=some v->G.F b o=some v)(hL:JV P L=true):∀(fuel:Nat) (t:TypeId) (cs:List Value) (x:DataW H×List MemPlace),L.contains t=true->
  DataW.trod enc P w base spare held fuel t cs=some x->Typed P maxLen t (kj x.1)/\(kj x.1).cells.length=cs.length/\∀(j:Nat) (c:AV) (v:Value),(kj x.1).cells[j]? =some c->cs[j]? =some v->VR G c v
 |fuel,t,cs,x,ht,h=>by
  have hs:NU P L t=true:=by have:=hL;simp only[JV,List.all_eq_true]at this;exact this t (by simpa using ht)
  unfold NU at hs;split at hs
  .rename_i hu;obtain⟨b,rfl,rfl⟩:=DataW.trod_bool hu h;refine⟨.bool hu,rfl,fun j c v hc hv=>?_⟩;cases j<;>simp[kj,JU,AV.cells]at hc hv;subst hc;subst hv;exact .bool b
  .rename_i k hu;obtain⟨n,rfl,rfl,D1⟩:=DataW.trod_int hu h;have hr:k.min<=n/\n<=k.max:=by simpa [Lit.wf]using D1
   refine⟨.int hu hr.1 hr.2,rfl,fun j c v hc hv=>?_⟩;cases j<;>simp[kj,JU,AV.cells]at hc hv;subst hc;subst hv;exact .int k n
  .rename_i hu;obtain⟨s,rfl,rfl,cj⟩:=DataW.trod_string hu h;refine⟨.str hu (by simpa [kj,JU]using cj),rfl,fun j c v hc hv=>?_⟩;cases j<;>simp[kj,JU,AV.cells]at hc hv;subst hc;subst hv;exact .str s
  .rename_i e hu;rcases DataW.trod_slice hu h with⟨rfl,rfl⟩|⟨a,len,cap,elems,rest,n,rfl,rfl,rfl,hb,z8,jc,hlen,uF,_,_⟩
   .refine⟨.sl hu (by simp) (by simp),rfl,fun j c v hc hv=>?_⟩;cases j<;>simp[kj,AV.cells]at hc hv;subst hc;subst hv;exact VR.sl (rows:=[]) (a:=none) (cap:=0) (sz:=0) (fun _ _=>undef) (by simp) (fun _=>rfl) (by simp) (by simp) (by simp) trivial
   .have gw:∀(i:Nat) (r:AV),(Cv (elems.map (·.1)))[i]? =some r->∃es:List Value,w.cells? base (a.add (i*P.cellsOf e)) (P.cellsOf e)=some es/\Typed P maxLen e r/\r.cells.length=es.length/\
      ∀(j:Nat) (c:AV) (v:Value),r.cells[j]? =some c->es[j]? =some v->VR G c v:=fun i r hr=>by
     rw[S_,List.map_map,List.getElem?_map]at hr;obtain⟨y,hy,rfl⟩:=Option.map_eq_some_iff.1 hr;have hi:i<len:=hlen▸(List.getElem?_eq_some_iff.1 hy).1;have:=uF i hi;rw[hy]at this;obtain⟨es,h1,h2⟩:=Option.bind_eq_some_iff.1 this;obtain⟨k1,k2,k3⟩:=NW hG hL n e es y hs h2;exact⟨es,h1,k1,k2,k3⟩
    have aao:(Cv (elems.map (·.1))).length=len:=by rw[S_];simp[hlen]
    refine⟨.sl hu (by omega) (fun r hr=>?_),rfl,fun j c v hc hv=>?_⟩
    .obtain⟨i,hi⟩:=List.getElem?_of_mem hr;grind
    .have ha:∀(i:Nat) (r:AV) (j:Nat) (c:AV),(Cv (elems.map (·.1)))[i]? =some r->r.cells[j]? =some c->a=⟨a.block,a.off,none⟩:=fun i r j c hr hc=>by
      obtain⟨es,h1,_,h3,_⟩:=gw i r hr;obtain⟨c1,c2⟩:=JW h1;have hj:j<P.cellsOf e:=by rw[<-c1,<-h3];grind
      have hi:i<elems.length:=by rw[hlen,<-aao];grind
      obtain⟨Qu,h1,_,_⟩:=gw 0 (kj elems[0].1) (by rw[S_,List.map_map,List.getElem?_map,List.getElem?_eq_getElem (by omega)];rfl);obtain⟨d1,d2⟩:=JW h1;have:=d2 0 Qu[0] (by grind);rw[Nat.zero_mul,Addr.add,if_pos rfl,Addr.add,if_pos rfl]at this;unfold World.cell? at this;split at this
      .split at this
       .cases this
       .rename_i jW;obtain⟨ab,ao,Qe⟩:=a;simp_all
      .cases this
     cases j with
     |succ j=>simp[kj,AV.cells]at hc
     |zero=>
      simp only[kj,AV.cells,List.getElem?_cons_zero,Option.some.injEq]at hc hv;subst hc;subst hv;have yF:=VR.sl (G:=G) (rows:=Cv (elems.map (·.1))) (own:= .free) (a:=some a) (cap:=cap) (sz:=P.cellsOf e) (fun i j=>(w.cell? ⟨a.block,a.off+i*P.cellsOf e+j,none⟩).getD undef) (by omega) (fun h=>by cases h)
       (fun i r hr=>by obtain⟨es,h1,_,h3,_⟩:=gw i r hr;rw[h3];exact(JW h1).1)
       (fun i r j c hr hc=>by
        obtain⟨es,h1,_,h3,_⟩:=gw i r hr;obtain⟨c1,c2⟩:=JW h1;have hj:j<es.length:=by rw[<-h3];grind
        have h4:=c2 j es[j] (List.getElem?_eq_getElem hj);have e0:=ha i r j c hr hc;have e1:(a.add (i*P.cellsOf e)).add j=⟨a.block,a.off+i*P.cellsOf e+j,none⟩:=by exact aan e0 _ _
        grind)
       (fun i r j c hr hc=>by
        obtain⟨es,h1,_,h3,h5⟩:=gw i r hr;obtain⟨c1,c2⟩:=JW h1;have hj:j<es.length:=by rw[<-h3];grind
        have h4:=c2 j es[j] (List.getElem?_eq_getElem hj);have e0:=ha i r j c hr hc;have e1:(a.add (i*P.cellsOf e)).add j=⟨a.block,a.off+i*P.cellsOf e+j,none⟩:=by exact aan e0 _ _
        grind) trivial
      rw[aao]at yF;exact yF
  .rename_i fs hu;simp only[Bool.and_eq_true,List.all_eq_true]at hs;obtain⟨xs,n,rfl,rfl,dG,iD,hx⟩:=DataW.trod_struct hu h;have key:∀(j:Nat) (f:Field) (p:AV),fs.toList[j]? =some f->((xs.map (·.1)).map kj)[j]? =some p->Typed P maxLen f.type p/\p.cells.length=((cs.drop f.offset).take (P.cellsOf f.type)).length/\
     ∀(i:Nat) (c:AV) (v:Value),p.cells[i]? =some c->((cs.drop f.offset).take (P.cellsOf f.type))[i]? =some v->VR G c v:=fun j f p hf hp=>by
    rw[List.map_map,List.getElem?_map]at hp;obtain⟨y,hy,rfl⟩:=Option.map_eq_some_iff.1 hp;have:=hx j f (by simpa using hf);rw[hy]at this;exact NW hG hL n f.type _ y (hs.2 f (List.mem_of_getElem? hf)) this
   have oS:∀(fl:List Field) (o n:Nat),ze P fl o n=true->∀f∈fl,f.offset+P.cellsOf f.type<=n/\o<=n:=fun fl=>by
    have aCc:∀(fl:List Field) (o n:Nat),ze P fl o n=true->o<=n:=fun fl=>by
     induction fl with
     |nil=>intro o n h;simp only[ze]at h;have:=Nat.eq_of_beq_eq_true h;omega
     |cons g r ih=>intro o n h;simp only[ze,Bool.and_eq_true]at h;have:=ih _ _ h.2;omega
    induction fl with
    |nil=>intro o n _ f hf;cases hf
    |cons g r ih=>
     intro o n h f hf;simp only[ze,Bool.and_eq_true]at h;have h1:=Nat.eq_of_beq_eq_true h.1;grind
   have JX:=aal (P:=P) (G:=G) (cs:=cs) fs.toList ((xs.map (·.1)).map kj) 0 (P.cellsOf t) hs.1 (by simp[iD]) fun j f p hf hp=>by obtain⟨_,k2,k3⟩:=key j f p hf hp;have hle:=(oS _ _ _ hs.1 f (List.mem_of_getElem? hf)).1;refine⟨by rw[k2];simp;omega,fun i c v hc hv=>k3 i c v hc ?_⟩;grind
   rw[kj,aak];refine⟨.struct hu (by simp[iD]) (fun j f p hf hp=>(key j f p (by simpa using hf) hp).1),?_,fun j c v hc hv=>?_⟩
   .simp only[AV.cells];rw[dG];have:=JX.1;omega
   .exact JX.2 j c v hc (by simpa using hv)
  .rename_i n e hu;simp only[Bool.and_eq_true]at hs;have cj:=Nat.eq_of_beq_eq_true hs.2;obtain⟨xs,m,rfl,rfl,dG,iD,hx⟩:=DataW.trod_array hu h;have key:∀(j:Nat) (p:AV),((xs.map (·.1)).map kj)[j]? =some p->Typed P maxLen e p/\p.cells.length=((cs.drop (j*P.cellsOf e)).take (P.cellsOf e)).length/\
     ∀(i:Nat) (c:AV) (v:Value),p.cells[i]? =some c->((cs.drop (j*P.cellsOf e)).take (P.cellsOf e))[i]? =some v->VR G c v:=fun j p hp=>by
    rw[List.map_map,List.getElem?_map]at hp;obtain⟨y,hy,rfl⟩:=Option.map_eq_some_iff.1 hp;have hj:j<n:=iD▸(List.getElem?_eq_some_iff.1 hy).1;have:=hx j hj;rw[hy]at this;exact NW hG hL m e _ y hs.1 this
   have JX:=aam (G:=G) (cs:=cs) (P.cellsOf e) ((xs.map (·.1)).map kj) 0 fun j p hp=>by
    obtain⟨_,k2,k3⟩:=key j p hp;have hj:j<n:=by have:=(List.getElem?_eq_some_iff.1 hp).1;simp at this;omega
    have hle:j*P.cellsOf e+P.cellsOf e<=cs.length:=by rw[dG,cj,<-Nat.succ_mul];exact Nat.mul_le_mul_right _ hj
    grind
   rw[kj,aak];refine⟨.array hu (by simp[iD]) (fun p hp=>?_),?_,fun j c v hc hv=>?_⟩
   .obtain⟨j,hj⟩:=List.getElem?_of_mem hp;exact(key j p hj).1
   .simp only[AV.cells];rw[JX.1,dG,cj];simp[iD]
   .exact JX.2 j c v hc (by simpa using hv)
  .cases hs
def sW(P:Program)(B:Nat):List TypeId->List AV->Prop
 |[],[]=>True
 |t::ts,a::r=>Typed P B t a/\sW P B ts r
 |_,_=>False
theorem sW.length{B:Nat}:∀{ts:List TypeId} {l:List AV},sW P B ts l->ts.length=l.length
 |[],[],_=>rfl
 |[],_::_,h=>h.elim
 |_::_,[],h=>h.elim
 |_::_,_::_,h=>by have:=sW.length h.2;simp[this]
theorem alV{W base t v}(ho:Value.okWide P W .any base t v){d:DataW H}(hd:Typed P maxLen t (kj d))(hv:b9 G (kj d).cells v.cells):VR G (kj d) v:=by
 unfold Value.okWide at ho;generalize hk:kj d=k at hd hv|-;cases hd with
 |struct hu h1 h2=>
  rw[hu]at ho;obtain⟨cs,rfl,_⟩:=ho;exact .agg hv.1 hv.2
 |array hu h1 h2=>
  rw[hu]at ho;obtain⟨cs,rfl,_⟩:=ho;exact .agg hv.1 hv.2
 |bool hu=>
  rw[hu]at ho;simp only[Cell.okWide,hu,Cell.ok]at ho;split at ho<;>first|contradiction|(have:=hv.2 0 _ rfl;simpa [Value.cells]using this)
 |int hu=>
  rw[hu]at ho;simp only[Cell.okWide,hu,Cell.ok]at ho;split at ho<;>first|contradiction|(have:=hv.2 0 _ rfl;simpa [Value.cells]using this)
 |str hu=>
  rw[hu]at ho;simp only[Cell.okWide,hu,Cell.ok]at ho;split at ho<;>first|contradiction|(have:=hv.2 0 _ rfl;simpa [Value.cells]using this)
 |sl hu=>
  rw[hu]at ho;simp only[Cell.okWide,hu,Cell.ok]at ho;split at ho<;>first|contradiction|(have:=hv.2 0 _ rfl;simpa [Value.cells]using this)
def AW(w:World):Gh:={w0:=w,ρ:=fun _=>none,F:=fun b o=>w.cell? ⟨b,o,none⟩,ar:=fun _=>none,bJ:=fun _=>none,ds:=fun _=>False}
theorem alW(w):Inv (fun _=>none) (AW w) [] w where
 below:=Below.refl _ _
 k_:=fun g cs e _=>by cases e
 kJ:=fun _=>Nat.le_refl _
 fix:=fun _ _ _ e=>e
 obj:=fun i ob e=>by simp at e
 ij:=fun i b e=>by cases e
 jv:=fun i r e=>by cases e
 inj:=fun i j b e=>by cases e
 base:=fun i b e=>by cases e
 sep:=fun i b o v _ e=>by cases e
 jw:=fun i r b c sz T e=>by cases e
 kb:=fun i j r r' b c sz T c' rp T' e=>by cases e
 lp:=fun b D e=>by cases e
 jx:=fun b D e=>by cases e
 gu:=fun D e=>e.elim
 kn:=fun g cs e=>by cases e
theorem aap(hL:JV P L=true):∀(ts:List TypeId) (vs:List Value) (ds:List (DataW H)) (ps:List MemPlace),(∀t∈ts,L.contains t=true)->(∀(j:Nat) t v,ts[j]? =some t->vs[j]? =some v->Value.okWide P w .any base t v)->
  DataW.TrodAll enc P w 0 (fun _=>true) true ts vs ds ps->sW P maxLen ts (ds.map kj)/\(ds.map kj).length=vs.length/\∀(j:Nat) (c:AV) (v:Value),(ds.map kj)[j]? =some c->vs[j]? =some v->VR (AW w) c v
 |[],[],[],_,_,_,_=>⟨trivial,rfl,fun j c v h=>by simp at h⟩
 |[],_::_,_,_,_,_,h=>by simp[DataW.TrodAll]at h
 |[],[],_::_,_,_,_,h=>by simp[DataW.TrodAll]at h
 |_::_,[],_,_,_,_,h=>by simp[DataW.TrodAll]at h
 |_::_,_::_,[],_,_,_,h=>by simp[DataW.TrodAll]at h
 |t::ts,v::vs,d::ds,ps,ht,ho,h=>by
  obtain⟨p,q,⟨fuel,h1⟩,h2,_⟩:=h;obtain⟨k1,k2,k3⟩:=aap hL ts vs ds q (fun t h=>ht t (List.mem_cons_of_mem _ h)) (fun j t v e e'=>ho (j+1) t v (by simpa using e) (by simpa using e')) h2;have hc:=ht t (List.mem_cons_self ..);obtain⟨m1,m2,m3⟩:=NW (G:=AW w) (fun _ _ _ e=>e) hL fuel t _ _ hc h1;have hs:NU P L t=true:=by have:=hL;simp only[JV,List.all_eq_true]at this;exact this t (by simpa using hc)
  refine⟨⟨m1,k1⟩,by simpa using k2,fun j c u e e'=>?_⟩;cases j with
  |zero=>
   simp only[List.map_cons,List.getElem?_cons_zero,Option.some.injEq]at e e';subst e;subst e';exact alV (ho 0 t v rfl rfl) m1 (b9.rn (by rw[m2];simp) fun j c u h h'=>m3 j c u h (by simpa using h'))
  |succ j=>grind
theorem aaq(hl:laidOutB P=true){w':World}(hb:Below w.heap.size w w'):∀(ts:List TypeId) (vs:List Value) (ds:List (DataW H)) (ps:List MemPlace),(∀t∈ts,P.readableRec t=true/\t<P.types.size)->(∀x∈ps,x.block<w.heap.size)->
  DataW.TrodAll enc P w 0 (fun _=>true) true ts vs ds ps->DataW.TrodAll enc P w' 0 (fun b=>decide (b<w.heap.size)) true ts vs ds ps
 |[],[],[],_,_,_,h=>h
 |[],_::_,_,_,_,_,h=>by simp[DataW.TrodAll]at h
 |[],[],_::_,_,_,_,h=>by simp[DataW.TrodAll]at h
 |_::_,[],_,_,_,_,h=>by simp[DataW.TrodAll]at h
 |_::_,_::_,[],_,_,_,h=>by simp[DataW.TrodAll]at h
 |t::ts,v::vs,d::ds,ps,hr,dN,h=>by
  obtain⟨p,q,h1,h2,rfl⟩:=h;exact⟨p,q,Below.trod hl (hr t (List.mem_cons_self ..)).1 (hr t (List.mem_cons_self ..)).2 h1 hb (fun x hx=>dN x (List.mem_append_left _ hx)),
   aaq hl hb ts vs ds q (fun t h=>hr t (List.mem_cons_of_mem _ h)) (fun x hx=>dN x (List.mem_append_right _ hx)) h2,rfl⟩
def Ta(P:Program)(L:List TypeId)(fn:Func):Bool:=
 laidOutB P&&JV P L&&(fn.params.toList.all fun t=>L.contains t&&P.readableRec t&&decide (t<P.types.size))&&
 match fn.resultTypes.toList with
 |[tb]=>(match P.underlying tb with
  |some .bool=>true
  |_=>false)
 |_=>false
theorem Typed.Dk{B t k v}(hu:P.underlying t=some (.int k))(h:Typed P B t v):∃n,v= .int k n/\k.min<=n/\n<=k.max:=by
 cases h with
 |int h h1 h2=>simp_all
 |bool h=>rw[hu]at h;cases h
 |str h=>rw[hu]at h;cases h
 |sl h=>rw[hu]at h;cases h
 |struct h=>rw[hu]at h;cases h
 |array h=>rw[hu]at h;cases h
theorem Typed.Fz{B t v}(hu:P.underlying t=some .string)(h:Typed P B t v):∃s,v= .str s/\s.size<=B:=by
 cases h with
 |str h h1=>exact⟨_,rfl,h1⟩
 |int h=>rw[hu]at h;cases h
 |bool h=>rw[hu]at h;cases h
 |sl h=>rw[hu]at h;cases h
 |struct h=>rw[hu]at h;cases h
 |array h=>rw[hu]at h;cases h
theorem Typed.Gn{B t e v}(hu:P.underlying t=some (.slice e))(h:Typed P B t v):∃rows,v= .sl rows .free/\rows.length<=B/\∀r∈rows,Typed P B e r:=by
 cases h with
 |sl h h1 h2=>grind
 |int h=>rw[hu]at h;cases h
 |bool h=>rw[hu]at h;cases h
 |str h=>rw[hu]at h;cases h
 |struct h=>rw[hu]at h;cases h
 |array h=>rw[hu]at h;cases h
theorem sW.rn{B:Nat}:∀{fs:List Field} {ps:List AV},ps.length=fs.length->(∀(j:Nat) (f:Field) (p:AV),fs[j]? =some f->ps[j]? =some p->Typed P B f.type p)->sW P B (fs.map (·.type)) ps
 |[],[],_,_=>trivial
 |[],_::_,h,_=>by simp at h
 |_::_,[],h,_=>by simp at h
 |f::fs,p::ps,h,H=>⟨H 0 f p rfl rfl,sW.rn (by simpa using h) fun j f p e e'=>H (j+1) f p (by simpa using e) (by simpa using e')⟩
theorem Typed.NX{B t fs v}(hu:P.underlying t=some (.struct fs))(h:Typed P B t v):∃ps,v= .agg (ps.flatMap AV.cells)/\sW P B (fs.toList.map (·.type)) ps:=by
 cases h with
 |struct h h1 h2=>rw[hu]at h;cases h;exact⟨_,rfl,.rn (by simpa using h1) fun j f p e e'=>h2 j f p (by simpa using e) e'⟩
 |int h=>rw[hu]at h;cases h
 |bool h=>rw[hu]at h;cases h
 |str h=>rw[hu]at h;cases h
 |sl h=>rw[hu]at h;cases h
 |array h=>rw[hu]at h;cases h
theorem sW.cons_inv{B t ts l}(h:sW P B (t::ts) l):∃a r,l=a::r/\Typed P B t a/\sW P B ts r:=by
 cases l with
 |nil=>exact h.elim
 |cons a r=>exact⟨a,r,rfl,h.1,h.2⟩
theorem sW.JY{B l}(h:sW P B [] l):l=[]:=by
 cases l with
 |nil=>rfl
 |cons a r=>exact h.elim
theorem Er{α:Type}{enc:α->AV}{Q:α->Prop}:∀{rows:List AV},(∀r∈rows,∃x,r=enc x/\Q x)->∃l:List α,rows=l.map enc/\∀x∈l,Q x
 |[],_=>⟨[],rfl,by simp⟩
 |r::rows,h=>by obtain⟨x,rfl,hx⟩:=h r (List.mem_cons_self ..);obtain⟨l,rfl,hl⟩:=Er (rows:=rows) fun r hr=>h r (List.mem_cons_of_mem _ hr);exact⟨x::l,rfl,fun y hy=>by grind⟩
end
section
variable {H:Type} {enc:TypeId×Value->H} {P:Program} {w:World} {base:Nat} {spare:Nat->Bool} {held:Bool} {L:List TypeId} {G:Gh}
theorem inv1{Γ}(w)(gH:∀g cs,Γ g=some cs->VR (AW w) (.bS cs) (.pointer (some ⟨g,0,none⟩)))(Te:∀g cs,Γ (1000001+g)=some []->Γ g=some cs->∃vals T z,w.heap[g]? =some (.cells vals T z)/\vals.size=cs.length):Inv Γ (AW w) [] w:=
 let h:=alW w
 {below:=h.below,kJ:=fun _=>h.kJ rfl,k_:=Te,fix:=h.fix,obj:=h.obj,ij:=h.ij,jv:=h.jv,inj:=h.inj,base:=h.base,sep:=h.sep,jw:=h.jw,kb:=h.kb,lp:=h.lp,jx:=h.jx,gu:=h.gu,kn:=gH}
theorem amb{w g}{fs:List FuncId}(h:∀i f,fs[i]? =some f->w.cell? ⟨g,i,none⟩=some (.func (.func f) #[] #[])):VR (AW w) (.bS (fs.map fun f=> .func f [] [])) (.pointer (some ⟨g,0,none⟩)):=by
 refine .bS (fun j=> .func (.func (fs.getD j 0)) #[] #[]) (fun j c e=>?_) fun j c e=>?_
 .rw[List.getElem?_map]at e;obtain⟨f,hf,rfl⟩:=Option.map_eq_some_iff.1 e;show w.cell? ⟨g,0+j,none⟩=_;grind
 .rw[List.getElem?_map]at e;obtain⟨f,hf,rfl⟩:=Option.map_eq_some_iff.1 e;rw[List.getD_eq_getElem?_getD,hf];exact .func rfl rfl (fun j c e=>by simp at e) fun j c e=>by simp at e
theorem amc{f fn}{s:ChangeSpec}(L)(hF:Ta P L fn=true)(aaz:s.vars=[])
  {W base args ds gs before}(vI:∀ds,ds.length=fn.params.size->s.fn H ds={results:=[.lit (.bool true)],args:=ds})
  (c_:∀(j:Nat) t v,fn.params[j]? =some t->args[j]? =some v->Value.okWide P W .any base t v)
  (hW:DataW.Whole enc P fn.params.toList s.vars false W args.toList ds gs before)
  (Γ)(gH:∀g cs,Γ g=some cs->VR (AW W) (.bS cs) (.pointer (some ⟨g,0,none⟩)))(Te:∀g cs,Γ (1000001+g)=some []->Γ g=some cs->∃vals T z,W.heap[g]? =some (.cells vals T z)/\vals.size=cs.length)
  (HC:sW P maxLen fn.params.toList (ds.map kj)->az P Γ f (ds.map kj) [] fun v _=>v= .bool true):
  Calls P f args W fun e W'=>∃v,e= .returned v/\s.post enc P fn false true false false W args v W':=by
 simp only[Ta,Bool.and_eq_true,List.all_eq_true,decide_eq_true_eq]at hF;obtain⟨⟨⟨vJ,hL⟩,rB⟩,oN⟩:=hF;have hW0:=hW;obtain⟨p,q,hA,hV,rfl,uo,iF⟩:=hW;rw[aaz]at hV;obtain⟨rfl,rfl⟩:=ChangeShapes.trodVars_none hV;obtain⟨h1,h2,h3⟩:=aap (base:=base) hL _ _ _ _ (fun t ht=>(rB t ht).1.1) (fun j t v e e'=>c_ j t v (by simpa using e) (by simpa using e')) hA;have hs:s.fn H (ds++[])={results:=[.lit (.bool true)],args:=ds}:=by rw[List.append_nil];exact vI ds (by have:=h1.length;simpa using this.symm)
 refine((HC h1).2 (AW W) W args (inv1 W gH Te) (b9.rn (by simpa using h2) fun j c v e e'=>h3 j c v e (by simpa using e'))).mono fun e W' hr=>?_;obtain⟨v,G',av,h',rfl,k1,k2,k3,rfl⟩:=hr;cases k3;have aaA:Below W.heap.size W W':=by have:=k2.below;rw[k1.w0]at this;exact this
 have dN:=hA.lt;have hrt:∀(b:Nat) (sp:Nat->Bool) (hd:Bool),DataW.TrodAll enc P W' b sp hd fn.resultTypes.toList ((Value.bool true).resultList fn.resultTypes.size) [.lit (.bool true)] []:=fun b sp hd=>by
  have:fn.resultTypes.size=fn.resultTypes.toList.length:=by simp
  rw[this];revert oN;generalize fn.resultTypes.toList=rl;intro oN;split at oN
  .split at oN
   .rename_i hu;exact⟨[],[],⟨1,by simp[DataW.trod,hu,Value.cells]⟩,rfl,rfl⟩
   .cases oN
  .cases oN
 refine⟨_,rfl,ds,[],p++[],[],p,[],hW0,?_,?_,?_,aaA.frame _,fun h=>by cases h⟩
 .rw[hs];exact hrt _ _ _
 .rw[hs];exact aaq vJ aaA _ _ _ _ (fun t ht=>⟨(rB t ht).1.2,(rB t ht).2⟩) dN hA
 .rw[hs,aaz];rfl
end
end Go.aS
namespace Go.Proofs.YtmfjlankeocaoaaGreatDoor
open Go Go.Proofs Go.aS
inductive Ex where
 |mk (k n no:Int) (name:List UInt8) (l:List Ex)
def Ex.k:Ex->Int| .mk k _ _ _ _=>k
def Ex.n:Ex->Int| .mk _ n _ _ _=>n
def Ex.no:Ex->Int| .mk _ _ no _ _=>no
def Ex.name:Ex->List UInt8| .mk _ _ _ s _=>s
def Ex.l:Ex->List Ex| .mk _ _ _ _ l=>l
mutual
def aK:Ex->AV
 | .mk k n no s l=> .agg [.int .i64 k,.int .i64 n,.int .i64 no,.str ⟨⟨s⟩⟩,.sl (M6 l) .free]
def M6:List Ex->List AV
 |[]=>[]
 |x::r=>aK x::M6 r
end
theorem ajT(l):M6 l=l.map aK:=by
 induction l with
 |nil=>rfl
 |cons x r ih=>simp[M6,ih]
theorem mu(k n no s l):aK (.mk k n no s l)= .agg [.int .i64 k,.int .i64 n,.int .i64 no,.str ⟨⟨s⟩⟩,.sl (l.map aK) .free]:=by simp[aK,ajT]
theorem Yv(x):(aK x).cells.length=5:=by cases x;simp[aK,AV.cells]
theorem ajU(x):AV.agg (List.take 5 (aK x).cells)=aK x:=by cases x;simp[aK,AV.cells]
theorem ajV(x):(aK x).isAgg=true:=by cases x;rfl
attribute [go_sem] ajV Yv ajU
theorem pX{x k n no s l}(h:x∈l){m}(hk:SizeOf.sizeOf (Ex.mk k n no s l)<m+1):SizeOf.sizeOf x<m:=by have:=List.sizeOf_lt_of_mem h;grind
structure Rl where
 kind:List UInt8
 lK:Int
 g_:Int
 x:Ex
def bY(r:Rl):AV:= .agg ([.str ⟨⟨r.kind⟩⟩,.int .i64 r.lK,.int .i64 r.g_]++(aK r.x).cells)
structure iq where
 name:List UInt8
 kinds:List (List UInt8)
 bf:List (List UInt8)
 rules:List Rl
 change:Ex
 mode:Int
def bq(l:List (List UInt8)):List AV:=l.map fun s=> .str ⟨⟨s⟩⟩
def DT(p:iq):List AV:=[.str ⟨⟨p.name⟩⟩,.sl (bq p.kinds) .free,.sl (bq p.bf) .free,.sl (p.rules.map bY) .free]++(aK p.change).cells++[.int .i64 p.mode]
def iI(p:iq):AV:= .agg (DT p)
structure Hd where
 eC:Int
 weight:Int
def fU(x:Hd):AV:= .agg [.int .i64 x.eC,.int .i64 x.weight]
def fY(l:List (List Hd)):List AV:=l.map fun r=> .sl (r.map fU) .free
def encI(l:List Int):List AV:=l.map fun n=> .int .i64 n
theorem cc(l):(encI l).length=l.length:=by simp[encI]
theorem kA(l):(bq l).length=l.length:=by simp[bq]
theorem Cg(l):(fY l).length=l.length:=by simp[fY]
theorem Rz:∀x:Ex,loose (aK x)=aK x
 | .mk k n no s l=>by
  have:eI (l.map aK)=l.map aK:=by rw[rK,List.map_map];exact List.map_congr_left fun x hx=>Rz x
  simp[mu,loose,eI,this]
theorem xC(l:List Ex):eI (l.map aK)=l.map aK:=uL _ Rz l
theorem Yw(k:Nat):∀x:Ex,RB k (aK x)
 | .mk _ n no s l=>by rw[mu];refine .Al (bB.cons (.int _ _) (bB.cons (.int _ _) (bB.cons (.int _ _) (bB.cons (.str _) (bB.cons (.qo fun r hr=>?_) (bB.nil _))))));obtain⟨x,hx,rfl⟩:=List.mem_map.1 hr;exact Yw k x
theorem uM(k)(l:List Ex):RB k (.sl (l.map aK) .free)=True:=eq_true (.qo fun r hr=>by obtain⟨x,hx,rfl⟩:=List.mem_map.1 hr;exact Yw k x)
theorem pY(l:List Ex):db 5 (l.map aK):=fun r hr=>by obtain⟨x,_,rfl⟩:=List.mem_map.1 hr;refine⟨Yv x,fun c hc=>?_⟩;cases x;simp only[mu,AV.cells,List.mem_cons,List.not_mem_nil,or_false]at hc;rcases hc with rfl|rfl|rfl|rfl|rfl<;>rfl
theorem Ji(r):(bY r).cells=[.str ⟨⟨r.kind⟩⟩,.int .i64 r.lK,.int .i64 r.g_,.int .i64 r.x.k,.int .i64 r.x.n,.int .i64 r.x.no,.str ⟨⟨r.x.name⟩⟩,.sl (r.x.l.map aK) .free]:=by obtain⟨_,_,_,x⟩:=r;cases x;simp[bY,mu,AV.cells,Ex.k,Ex.n,Ex.no,Ex.name,Ex.l]
theorem DU(r):bY r= .agg [.str ⟨⟨r.kind⟩⟩,.int .i64 r.lK,.int .i64 r.g_,.int .i64 r.x.k,.int .i64 r.x.n,.int .i64 r.x.no,.str ⟨⟨r.x.name⟩⟩,.sl (r.x.l.map aK) .free]:=by rw[<-Ji];rfl
theorem Yx(r):loose (bY r)=bY r:=by simp[DU,loose,eI,xC]
theorem M7(l:List Rl):eI (l.map bY)=l.map bY:=uL _ Yx l
theorem ajW(k r):RB k (bY r):=by rw[DU];exact .Al (bB.cons (.str _) (bB.cons (.int _ _) (bB.cons (.int _ _) (bB.cons (.int _ _) (bB.cons (.int _ _) (bB.cons (.int _ _) (bB.cons (.str _) (bB.cons (uM k r.x.l▸trivial) (bB.nil _)))))))))
theorem RA(k)(l:List Rl):RB k (.sl (l.map bY) .free)=True:=eq_true (.qo fun r hr=>by obtain⟨x,hx,rfl⟩:=List.mem_map.1 hr;exact ajW k x)
theorem FX(l:List Rl):db 8 (l.map bY):=fun r hr=>by obtain⟨x,_,rfl⟩:=List.mem_map.1 hr;rw[Ji];refine⟨rfl,fun c hc=>?_⟩;simp only[List.mem_cons,List.not_mem_nil,or_false]at hc;rcases hc with rfl|rfl|rfl|rfl|rfl|rfl|rfl|rfl<;>rfl
theorem Jj(l):eI (bq l)=bq l:=uL _ (fun _=>by rw[loose]) l
theorem DV(n l):RB n (.sl (bq l) .free)=True:=eq_true (.qo fun r hr=>by obtain⟨i,_,rfl⟩:=List.mem_map.1 hr;exact .str _)
theorem rL(l):eI (encI l)=encI l:=uL _ (fun _=>by rw[loose]) l
theorem pZ(n l):RB n (.sl (encI l) .free)=True:=eq_true (.qo fun r hr=>by obtain⟨i,_,rfl⟩:=List.mem_map.1 hr;exact .int _ _)
theorem lL(l):db 1 (encI l):=db.int l
theorem Yy(x):loose (fU x)=fU x:=by simp[fU,loose,eI]
theorem Yz(l:List Hd):eI (l.map fU)=l.map fU:=uL _ Yy l
theorem ajX(k x):RB k (fU x):= .Al (bB.cons (.int _ _) (bB.cons (.int _ _) (bB.nil _)))
theorem YA(k)(l:List Hd):RB k (.sl (l.map fU) .free)=True:=eq_true (.qo fun r hr=>by obtain⟨x,hx,rfl⟩:=List.mem_map.1 hr;exact ajX k x)
theorem RC(l):eI (fY l)=fY l:=uL _ (fun r=>by simp[loose,Yz]) l
theorem YB(k l):RB k (.sl (fY l) .free)=True:=eq_true (.qo fun r hr=>by obtain⟨x,hx,rfl⟩:=List.mem_map.1 hr;exact YA k x▸trivial)
attribute [go_sem] Rz xC uM Yx M7 RA Jj DV rL pZ Yy Yz YA RC YB
def ns(b:UInt8):Bool:=decide ((97<=b.toNat/\b.toNat<=122)\/(65<=b.toNat/\b.toNat<=90))
def oP(b:UInt8):Bool:=decide (48<=b.toNat/\b.toNat<=57)
def tR(b:UInt8):Bool:=ns b||oP b||decide (b.toNat=95)
theorem YC(Γ b h):AC Γ 247 [.int .u8 b.toNat] h (.bool (ns b)):=by
 refine az.drop ?_;refine cS [.tmp 2] Tryz.func247 ?_;have hb:=b.toNat_lt;have hd:ns b=decide ((97<=b.toNat/\b.toNat<=122)\/(65<=b.toNat/\b.toNat<=90)):=rfl;refine aU ?_;refine aJ.intro (fun h1=>?_) (fun h1=>?_)<;>simp(disch:=omega) only[go_sem,seval]
 .refine aJ.intro (fun h2=>?_) (fun h2=>?_)<;>simp(disch:=omega) only[go_sem,seval]
  .rw[hd,decide_eq_true (by omega)]
  .refine aJ.intro (fun h3=>?_) (fun h3=>?_)<;>simp(disch:=omega) only[go_sem,seval]
   .grind
   .rw[hd,decide_eq_false (by omega)]
 .refine aJ.intro (fun h3=>?_) (fun h3=>?_)<;>simp(disch:=omega) only[go_sem,seval]
  .grind
  .rw[hd,decide_eq_false (by omega)]
theorem ajY(Γ b h):AC Γ 275 [.int .u8 b.toNat] h (.bool (oP b)):=by
 refine az.drop ?_;refine cS [.tmp 2] Tryz.func275 ?_;have hd:oP b=decide (48<=b.toNat/\b.toNat<=57):=rfl;refine aU ?_;refine aJ.intro (fun h1=>?_) (fun h1=>?_)<;>simp(disch:=omega) only[go_sem,seval]
 .grind
 .rw[hd,decide_eq_false (by omega)]
theorem M8(Γ b h):AC Γ 248 [.int .u8 b.toNat] h (.bool (tR b)):=by
 refine az.drop ?_;refine cS [.tmp 2] Tryz.func248 ?_;have hd:tR b=(ns b||oP b||decide (b.toNat=95)):=rfl;refine aU ?_;refine bL (YC Γ b _) ?_;cases h1:ns b<;>rw[h1]at hd<;>simp(disch:=omega) only[go_sem,seval]
 .refine bL (ajY Γ b _) ?_;cases h2:oP b<;>rw[h2]at hd<;>simp(disch:=omega) only[go_sem,seval]
  .rw[hd,Bool.false_or,Bool.false_or];congr 1;exact decide_eq_decide.2 (by omega)
  .rw[hd];rfl
 .rw[hd];rfl
theorem Az(l)(i:Nat):(⟨⟨l⟩⟩:ByteArray)[i]? =l[i]? :=by
 by_cases h:i<l.length
 .have h2:i<(⟨⟨l⟩⟩:ByteArray).size:=h;rw[List.getElem?_eq_getElem h,getElem?_pos (⟨⟨l⟩⟩:ByteArray) i h2];rfl
 .have h2:¬i<(⟨⟨l⟩⟩:ByteArray).size:=h;grind
theorem oQ(l):(⟨⟨l⟩⟩:ByteArray).size=l.length:=rfl
def l8:List UInt8->Bool
 |[]=>false
 |b::r=>decide (r.length+1<=32)&&ns b&&(b::r).all tR
theorem ajZ(Γ l h)(hl:l.length<=9223372036854775807):AC Γ 196 [.str ⟨⟨l⟩⟩] h (.bool (l8 l)):=by
 refine az.drop ?_;refine cS [.tmp 2] Tryz.func196 ?_;simp(disch:=omega) only[go_sem,seval,oQ];refine aJ.intro (fun h1=>?_) (fun h1=>?_)<;>simp(disch:=omega) only[go_sem,seval,oQ]
 .have:l=[]:=List.length_eq_zero_iff.1 (by omega);subst this;rfl
 refine aJ.intro (fun h2=>?_) (fun h2=>?_)<;>simp(disch:=omega) only[go_sem,seval]
 .cases l with
  |nil=>simp at h1
  |cons b r=>simp only[List.length_cons]at h2;rw[l8,decide_eq_false (by omega)];rfl
 cases l with
 |nil=>simp at h1
 |cons b r=>
 have hn:l8 (b::r)=(ns b&&(b::r).all tR):=by simp only[List.length_cons]at h2;rw[l8,decide_eq_true (by omega),Bool.true_and]
 rw[hn];simp only[List.length_cons]at hl;refine⟨b,by rw[Az];rfl,?_⟩;refine aU ?_;refine bL (YC Γ b _) ?_;cases hb:ns b<;>simp(disch:=omega) only[go_sem,seval];refine d_ (β:=Unit) (b::r) [0,3] (fun ae _=>[(0,.str ⟨⟨b::r⟩⟩),(3,.int .i64 ae.length)]) (fun _=>h) (fun ae rest _=>ae.all tR=true) () ?_ rfl rfl ?_ ?_
 .simp(disch:=omega) only[go_sem,seval,List.length_nil]
 .rintro ae x rest _ hd hp;have hlen:r.length+1=ae.length+1+rest.length:=by rw[<-List.length_cons (a:=b),hd];simp;omega
  have e1:(b::r)[ae.length]? =some x:=by rw[hd];simp
  simp(disch:=omega) only[go_sem,seval,oQ];refine bu (aJ.pos (by omega)) ?_;refine⟨x,by rw[Az];exact e1,?_⟩;refine bL (M8 Γ x _) ?_;cases hx:tR x<;>simp(disch:=omega) only[go_sem,seval]
  .grind
  .refine cd () (by grind) ?_ rfl;simp(disch:=omega) only[go_sem,seval,List.length_append]
 .rintro _ hp;simp(disch:=omega) only[go_sem,seval,oQ];refine fE [0] ?_;rw[List.all_cons]at hp;rw[hp]
theorem fK(l):(⟨⟨l⟩⟩:ByteArray).toList=l:=by simp_all
theorem aAP(l):(⟨l.toArray⟩:ByteArray).toList=l:=fK l
def FY:List (List UInt8):=[[112,111,108,105,99,121],[109,111,100,101],[111,108,100],[110,101,119],[98,111,116,104],[101,105,116,104,101,114],[111,102,102,105,99,101],[107,105,110,100],[114,117,108,101],[116,104,105,110,107],[99,104,97,110,103,101],[115,111,109,101],[119,101,105,103,104,116],[111,102],[117,112,116,111],[101,108,115,101]]
def Ch(l:List UInt8):Bool:=FY.any fun w=>l==w
theorem aj0(Γ l h):AC Γ 197 [.str ⟨⟨l⟩⟩] h (.bool (Ch l)):=by
 refine az.drop ?_;have hd:Ch l=FY.any fun w=>l==w:=rfl;simp only[FY,List.any_cons,List.any_nil]at hd;refine cS [.tmp 2] Tryz.func197 ?_;simp(disch:=omega) only[go_sem,seval,fK];cases h0:(l==[112,111,108,105,99,121])<;>rw[h0]at hd<;>simp(disch:=omega) only[go_sem,seval,fK];rotate_left
 .rw[hd];simp
 cases h1:(l==[109,111,100,101])<;>rw[h1]at hd<;>simp(disch:=omega) only[go_sem,seval,fK];rotate_left
 .rw[hd];simp
 cases h2:(l==[111,108,100])<;>rw[h2]at hd<;>simp(disch:=omega) only[go_sem,seval,fK];rotate_left
 .rw[hd];simp
 cases h3:(l==[110,101,119])<;>rw[h3]at hd<;>simp(disch:=omega) only[go_sem,seval,fK];rotate_left
 .rw[hd];simp
 cases h4:(l==[98,111,116,104])<;>rw[h4]at hd<;>simp(disch:=omega) only[go_sem,seval,fK];rotate_left
 .rw[hd];simp
 cases h5:(l==[101,105,116,104,101,114])<;>rw[h5]at hd<;>simp(disch:=omega) only[go_sem,seval,fK];rotate_left
 .rw[hd];simp
 cases h6:(l==[111,102,102,105,99,101])<;>rw[h6]at hd<;>simp(disch:=omega) only[go_sem,seval,fK];rotate_left
 .rw[hd];simp
 cases h7:(l==[107,105,110,100])<;>rw[h7]at hd<;>simp(disch:=omega) only[go_sem,seval,fK];rotate_left
 .rw[hd];simp
 cases h8:(l==[114,117,108,101])<;>rw[h8]at hd<;>simp(disch:=omega) only[go_sem,seval,fK];rotate_left
 .rw[hd];simp
 cases h9:(l==[116,104,105,110,107])<;>rw[h9]at hd<;>simp(disch:=omega) only[go_sem,seval,fK];rotate_left
 .rw[hd];simp
 cases sr:(l==[99,104,97,110,103,101])<;>rw[sr]at hd<;>simp(disch:=omega) only[go_sem,seval,fK];rotate_left
 .rw[hd];simp
 cases DW:(l==[115,111,109,101])<;>rw[DW]at hd<;>simp(disch:=omega) only[go_sem,seval,fK];rotate_left
 .rw[hd];simp
 cases Ci:(l==[119,101,105,103,104,116])<;>rw[Ci]at hd<;>simp(disch:=omega) only[go_sem,seval,fK];rotate_left
 .rw[hd];simp
 cases qy:(l==[111,102])<;>rw[qy]at hd<;>simp(disch:=omega) only[go_sem,seval,fK];rotate_left
 .rw[hd];simp
 cases Cj:(l==[117,112,116,111])<;>rw[Cj]at hd<;>simp(disch:=omega) only[go_sem,seval,fK];rotate_left
 .rw[hd];simp
 cases yX:(l==[101,108,115,101])<;>rw[yX]at hd<;>simp(disch:=omega) only[go_sem,seval];rotate_left
 .rw[hd];simp
 rw[hd];rfl
def rM(l:List UInt8):Bool:=l8 l&&!Ch l
theorem YD(Γ l h)(hl:l.length<=9223372036854775807):AC Γ 135 [.str ⟨⟨l⟩⟩] h (.bool (rM l)):=by
 refine az.drop ?_;have hd:rM l=(l8 l&&!Ch l):=rfl;refine cY [.tmp 2] Tryz.func135 ?_;refine bL (ajZ Γ l _ hl) ?_;cases h1:l8 l<;>rw[h1]at hd<;>simp(disch:=omega) only[go_sem,seval]
 .rw[hd];rfl
 .refine bL (aj0 Γ l _) ?_;rw[hd];rfl
abbrev Tx:=List UInt8
mutual
def dT:Ex->Nat
 | .mk _ _ _ _ l=>iJ l+1
def iJ:List Ex->Nat
 |[]=>0
 |x::r=>dT x+iJ r
end
mutual
def mQ:Ex->Nat
 | .mk _ _ _ _ l=>oR l+1
def oR:List Ex->Nat
 |[]=>0
 |x::r=>max (mQ x) (oR r)
end
mutual
def iR:Nat->Ex->List (Ex×Nat)
 |d,.mk k n no s l=>(.mk k n no s l,d)::lM (d+1) l
def lM:Nat->List Ex->List (Ex×Nat)
 |_,[]=>[]
 |d,x::r=>iR d x++lM d r
end
mutual
def de(f:Ex->Bool):Ex->Bool
 | .mk k n no s l=>f (.mk k n no s l)&&v_ f l
def v_(f:Ex->Bool):List Ex->Bool
 |[]=>true
 |x::r=>de f x&&v_ f r
end
mutual
theorem RD:∀(d:Nat) (x:Ex),(iR d x).length=dT x
 |d,.mk k n no s l=>by rw[iR,dT,List.length_cons,YE]
theorem YE:∀(d:Nat) (l:List Ex),(lM d l).length=iJ l
 |d,[]=>rfl
 |d,x::r=>by rw[lM,iJ,List.length_append,RD,YE]
end
mutual
theorem DX(f:Ex->Bool):∀(d:Nat) (x:Ex),(iR d x).all (fun y=>f y.1)=de f x
 |d,.mk k n no s l=>by rw[iR,de,List.all_cons,YF]
theorem YF(f:Ex->Bool):∀(d:Nat) (l:List Ex),(lM d l).all (fun y=>f y.1)=v_ f l
 |d,[]=>rfl
 |d,x::r=>by rw[lM,v_,List.all_append,DX,YF]
end
mutual
theorem RE(m:Nat):∀(d:Nat) (x:Ex),d<=m+1->((∀y∈iR d x,y.2<=m)<->d+mQ x<=m+1)
 |d,.mk k n no s l,h=>by
  rw[iR,mQ,List.forall_mem_cons];constructor
  .rintro⟨h1,h2⟩;have:=(RF m (d+1) l (by omega)).1 h2;omega
  .intro h1;exact⟨by show d<=m;omega,(RF m (d+1) l (by omega)).2 (by omega)⟩
theorem RF(m:Nat):∀(d:Nat) (l:List Ex),d<=m+1->((∀y∈lM d l,y.2<=m)<->d+oR l<=m+1)
 |d,[],h=>by simp[lM,oR];omega
 |d,x::r,h=>by
  have h1:=RE m d x h;have h2:=RF m d r h;rw[lM,oR];constructor
  .intro h3;have:=h1.1 fun y hy=>h3 y (List.mem_append_left _ hy);have:=h2.1 fun y hy=>h3 y (List.mem_append_right _ hy);omega
  grind
end
mutual
theorem Jk:∀x:Ex,mQ x<=dT x
 | .mk k n no s l=>by rw[mQ,dT];have:=RG l;omega
theorem RG:∀l:List Ex,oR l<=iJ l
 |[]=>by simp[oR]
 |x::r=>by rw[oR,iJ];have:=Jk x;have:=RG r;omega
end
theorem size_pos(x):1<=dT x:=by cases x;simp[dT]
theorem Ck{x:Ex}:∀{l:List Ex},x∈l->dT x<=iJ l
 |y::r,h=>by
  rw[iJ];rcases List.mem_cons.1 h with rfl|h
  .omega
  .have:=Ck h;omega
theorem FZ:∀l:List Ex,l.length<=iJ l
 |[]=>by simp
 |x::r=>by rw[iJ,List.length_cons];have:=FZ r;have:=size_pos x;omega
theorem M9(a b):iJ (a++b)=iJ a+iJ b:=by
 induction a with
 |nil=>simp[iJ]
 |cons x r ih=>simp only[List.cons_append,iJ,ih];omega
theorem YG(a b):oR (a++b)=max (oR a) (oR b):=by
 induction a with
 |nil=>simp[oR]
 |cons x r ih=>simp only[List.cons_append,oR,ih];omega
theorem DY(f l):v_ f l=l.all (de f):=by
 induction l with
 |nil=>rfl
 |cons x r ih=>rw[v_,List.all_cons,ih]
mutual
theorem RH(f g:Ex->Bool):∀x:Ex,de (fun y=>f y&&g y) x=(de f x&&de g x)
 | .mk k n no s l=>by rw[de,de,de,YH];grind
theorem YH(f g:Ex->Bool):∀l:List Ex,v_ (fun y=>f y&&g y) l=(v_ f l&&v_ g l)
 |[]=>rfl
 |x::r=>by rw[v_,v_,v_,RH,YH];grind
end
def iK:List Tx->Tx->Int
 |[],_=>-1
 |x::r,s=>if x==s then 0 else if iK r s<0 then-1 else iK r s+1
theorem YI{l s}(h:∀x∈l,(x==s)=false):iK l s=-1:=by
 induction l with
 |nil=>rfl
 |cons x r ih=>rw[iK,h x (by simp),ih fun y hy=>h y (by simp[hy])];rfl
theorem YJ{ae r x s}(h:∀y∈ae,(y==s)=false)(hx:(x==s)=true):iK (ae++x::r) s=ae.length:=by
 induction ae with
 |nil=>simp[iK,hx]
 |cons y d ih=>
  rw[List.cons_append,iK,h y (by simp),ih fun z hz=>h z (by simp[hz])];grind
theorem aj1(l s):-1<=iK l s/\iK l s<l.length:=by
 induction l with
 |nil=>simp[iK]
 |cons x r ih=>
  rw[iK,List.length_cons];omega
def Cl:List Tx->List Tx->Bool
 |_,[]=>true
 |ae,x::r=>rM x&&(iK (ae++x::r) x==(ae.length:Int))&&Cl (ae++[x]) r
def uN(l:List Tx):Bool:=Cl [] l
def lg(x:Ex):Bool:=x.k==1||x.k==2
def kh(o:List Tx)(x:Ex):Bool:=!lg x||decide (0<=iK o x.name)
def mv(o:List Tx)(x:Ex):Int:=if lg x then iK o x.name else 0
def iY(x:Ex):Bool:=
 if x.k=1 then decide (x.n=0/\x.l.length=0)
 else if x.k=2 then decide (1<=x.n/\x.n<=4096/\x.l.length=0)
 else if x.k=3 then decide (x.name.length=0/\1<=x.l.length/\x.l.length<=16/\1<=x.n/\x.n<=x.l.length)
 else if x.k=4 then decide (x.name.length=0/\x.l.length=2/\0<=x.n/\x.n<=1099511627776)
 else false
def iC(u:Bool)(x:Ex):Bool:=iY x&&(u||!(x.k==4))
def exprs(p:iq):List Ex:=p.rules.map Rl.x++[p.change]
def lN(x:Ex):Bool:=decide (256<dT x)||decide (16<mQ x)
def nM(p:iq):Bool:=decide (p.bf.length<=32/\p.kinds.length<=16/\p.rules.length<=16)&&(exprs p).all fun x=>!lN x
def ot(p:iq):Bool:=(rM p.name&&uN p.bf&&uN p.kinds)&&(exprs p).all (de (kh p.bf))
def l9:List Tx->List Rl->Bool
 |k::ks,r::rs=>(r.kind==k)&&decide (0<=r.g_/\r.g_<=1099511627775)&&l9 ks rs
 |_,_=>true
def ou(p:iq):Bool:=
 decide (0<p.kinds.length/\p.rules.length=p.kinds.length/\1<=p.mode/\p.mode<=4)&&l9 p.kinds p.rules&&p.rules.all (fun r=>de (iC true) r.x)&&de (iC false) p.change
mutual
def dB(o:List Tx):Ex->Ex
 | .mk k n no s l=> .mk k n (mv o (.mk k n no s l)) s (M_ o l)
def M_(o:List Tx):List Ex->List Ex
 |[]=>[]
 |x::r=>dB o x::M_ o r
end
theorem Na(o l):M_ o l=l.map (dB o):=by
 induction l with
 |nil=>rfl
 |cons x r ih=>rw[M_,ih,List.map_cons]
def uO(o:List Tx)(i:Int)(r:Rl):Rl:={r with lK:=i,x:=dB o r.x}
def kB(o:List Tx):Int->List Rl->List Rl
 |_,[]=>[]
 |i,r::rs=>uO o i r::kB o (i+1) rs
def sN(p:iq):iq:={p with rules:=kB p.bf 0 p.rules,change:=dB p.bf p.change}
def fi(p:iq):Int:=if nM p=false then 2 else if ot p=false then 201 else if ou p=false then 200 else 0
def jD(o:List Tx)(x:Ex):Bool:=de (fun y=>y.no==mv o y) x
def h_(o:List Tx):Int->List Rl->Bool
 |_,[]=>true
 |i,r::rs=>(r.lK==i&&jD o r.x)&&h_ o (i+1) rs
def dp(p:iq):Int:=if fi p=0 then(if(h_ p.bf 0 p.rules&&jD p.bf p.change)=true then 0 else 200)else fi p
theorem yY(ae r:List Tx)(x):(bq (ae++x::r))[ae.length]? =some (.str ⟨⟨x⟩⟩):=by simp[bq]
inductive fj:Ex->Prop
 |mk {k n no:Int} {s:Tx} {l:List Ex} (h1:l.length<=9223372036854775807) (h2:∀x∈l,fj x) (h3:s.length<=9223372036854775807) (h4:-9223372036854775808<=n) (h5:n<=9223372036854775807):fj (.mk k n no s l)
theorem fj.len{k n no}{s:Tx}{l}(h:fj (.mk k n no s l)):l.length<=9223372036854775807:=by cases h;assumption
theorem fj.mem{k n no}{s:Tx}{l}(h:fj (.mk k n no s l)):∀x∈l,fj x:=by cases h;assumption
theorem tS{α:Type}{ae r}{x:α}{k}(h:(ae++x::r).length<=k):ae.length+1+r.length<=k:=by simp at h;omega
theorem fZ{α:Type}(f:α->AV)(ae r x):((ae++x::r).map f)[ae.length]? =some (f x):=by simp
theorem Jl(Γ)(l:List Tx)(s:Tx)(h)(hl:l.length<=9223372036854775807):AC Γ 139 [.sl (bq l) .free,.str ⟨⟨s⟩⟩] h (.int .i64 (iK l s)):=by
 refine az.drop ?_;refine cY [.tmp 4] Tryz.func139 ?_;refine d_ (β:=Unit) l [0,1,5] (fun ae _=>[(0,.sl (bq l) .free),(1,.str ⟨⟨s⟩⟩),(5,.int .i64 ae.length)]) (fun _=>h) (fun ae _ _=>∀y∈ae,(y==s)=false) () ?_ rfl (by simp) ?_ ?_
 .simp(disch:=omega) only[go_sem,seval,List.length_nil]
 .rintro ae x r _ hd hp;have hlen:l.length=ae.length+1+r.length:=by rw[hd];simp;omega
  have e1:(bq l)[ae.length]? =some (.str ⟨⟨x⟩⟩):=by rw[hd];exact yY ae r x
  simp(disch:=omega) only[go_sem,seval,kA];refine aJ.pos (by omega) ?_;simp(disch:=omega) only[go_sem,seval,e1,fK];cases hx:(x==s)<;>simp(disch:=omega) only[go_sem,seval]
  .refine cd () ?_ ?_ rfl
   .grind
   .simp(disch:=omega) only[go_sem,seval,List.length_append]
  .rw[hd,YJ hp hx]
 .rintro _ hp;simp(disch:=omega) only[go_sem,seval,kA];refine fE [] ?_;rw[YI hp]
theorem YK(Γ:GG):∀(m:Nat) (x:Ex) (lim:Nat) (h:AH),SizeOf.sizeOf x<m->fj x->lim<=1000000->AC Γ 194 [aK x,.int .i64 lim] h (.int .i64 (min (dT x) (lim+1):Nat))
 |0,_,_,_,hk,_,_=>absurd hk (Nat.not_lt_zero _)
 |m+1,.mk k n no s l,lim,h,cj,hs,sO=>by
  refine az.drop ?_;refine cS [.tmp 4] Tryz.func194 ?_;simp only[mu];refine aU ?_;have nN:=hs.len;refine d_ (β:=Unit) l [1,2,5,6] (fun ae _=>[(1,.int .i64 lim),(2,.ptr (some (h.length,0))),(5,.int .i64 (min (iJ ae+1) (lim+1):Nat)),(6,.int .i64 ae.length)]) (fun _=>h++[.row [.int .i64 k,.int .i64 n,.int .i64 no,.str ⟨⟨s⟩⟩,.sl (l.map aK) .free] 26]) (fun _ _ _=>True) () ?_ rfl trivial ?_ ?_
  .simp(disch:=omega) only[go_sem,seval,List.length_nil,iJ];simp
  .rintro ae x r _ hd _;have hlen:l.length=ae.length+1+r.length:=by rw[hd];simp;omega
   have e1:(l.map aK)[ae.length]? =some (aK x):=by rw[hd];exact fZ ..
   simp(disch:=omega) only[go_sem,seval,List.length_map];refine bu (aJ.pos (by omega)) ?_;have hb:=M9 ae [x];simp only[iJ,Nat.add_zero]at hb;have jH:iJ l=iJ ae+(dT x+iJ r):=by rw[hd,M9,iJ]
   have hp:=size_pos x;refine aJ.intro (fun hc=>?_) (fun hc=>?_)<;>simp(disch:=omega) only[go_sem,seval,e1]
   .refine bL ((YK Γ m x (lim-(iJ ae+1)) _ (pX (by rw[hd];simp) cj) (hs.mem x (by rw[hd];simp)) (by omega)).args (by grind)) ?_;refine cd () trivial ?_ rfl;simp(disch:=omega) only[go_sem,seval,List.length_append,hb];grind
   .refine fE [5] ?_;rw[dT];congr 1;omega
  .rintro _ _;simp(disch:=omega) only[go_sem,seval,List.length_map];refine fE [5] ?_;rw[dT]
theorem aj2(Γ x)(lim:Nat)(h)(hs:fj x)(sO:lim<=1000000):AC Γ 194 [aK x,.int .i64 lim] h (.int .i64 (min (dT x) (lim+1):Nat)):=
 YK Γ _ x lim h (Nat.lt_succ_self _) hs sO
theorem YL(Γ:GG):∀(m:Nat) (x:Ex) (h:AH),SizeOf.sizeOf x<m->fj x->dT x<=1000000->AC Γ 195 [aK x] h (.int .i64 (mQ x))
 |0,_,_,hk,_,_=>absurd hk (Nat.not_lt_zero _)
 |m+1,.mk k n no s l,h,cj,hs,sO=>by
  refine az.drop ?_;refine cS [.tmp 2] Tryz.func195 ?_;simp only[mu];refine aU ?_;have nN:=hs.len;rw[dT]at sO;have rN:=RG l;refine d_ (β:=Unit) l [1,3,4] (fun ae _=>[(1,.ptr (some (h.length,0))),(3,.int .i64 (oR ae)),(4,.int .i64 ae.length)]) (fun _=>h++[.row [.int .i64 k,.int .i64 n,.int .i64 no,.str ⟨⟨s⟩⟩,.sl (l.map aK) .free] 26]) (fun _ _ _=>True) () ?_ rfl trivial ?_ ?_
  .simp(disch:=omega) only[go_sem,seval,List.length_nil,oR]
  .rintro ae x r _ hd _;have hlen:l.length=ae.length+1+r.length:=by rw[hd];simp;omega
   have e1:(l.map aK)[ae.length]? =some (aK x):=by rw[hd];exact fZ ..
   have hx:x∈l:=by rw[hd];simp
   have hb:=Ck hx;simp(disch:=omega) only[go_sem,seval,List.length_map];refine aJ.pos (by omega) ?_;simp(disch:=omega) only[go_sem,seval,e1];refine bL (YL Γ m x _ (pX hx cj) (hs.mem x hx) (by omega)) ?_;refine cd () trivial ?_ rfl;simp(disch:=omega) only[go_sem,seval,List.length_append,YG,oR];grind
  .rintro _ _;simp(disch:=omega) only[go_sem,seval,List.length_map];refine fE [3] ?_;rw[mQ];rfl
theorem aj3(Γ x h)(hs:fj x)(hl:dT x<=1000000):AC Γ 195 [aK x] h (.int .i64 (mQ x)):=
 YL Γ _ x h (Nat.lt_succ_self _) hs hl
theorem YM(Γ x h)(hs:fj x):AC Γ 134 [aK x] h (.bool (lN x)):=by
 refine az.drop ?_;refine cS [.tmp 2] Tryz.func134 ?_;have c1:=fun h=>aj2 Γ x 256 h hs (by omega);have c2:=fun h hl=>aj3 Γ x h hs hl;have hd:lN x=(decide (256<dT x)||decide (16<mQ x)):=rfl;cases x with|mk k n no s l=>
 simp only[mu]at c1 c2|-;refine aU ?_;refine bL ((c1 _).args (by simp)) ?_;refine aJ.intro (fun h1=>?_) (fun h1=>?_)<;>simp(disch:=omega) only[go_sem,seval]
 .grind
 .refine bL (c2 _ (by omega)) ?_;grind
structure lO(p:iq):Prop where
 name:p.name.length<=9223372036854775807
 kinds:p.kinds.length<=9223372036854775807
 RI:∀s∈p.kinds,s.length<=9223372036854775807
 bf:p.bf.length<=9223372036854775807
 RJ:∀s∈p.bf,s.length<=9223372036854775807
 rules:p.rules.length<=9223372036854775807
 xD:∀r∈p.rules,fj r.x
 aj4:∀r∈p.rules,r.kind.length<=9223372036854775807
 change:fj p.change
def l_(x:Ex):List AV:=[.int .i64 x.k,.int .i64 x.n,.int .i64 x.no,.str ⟨⟨x.name⟩⟩,.sl (x.l.map aK) .free]
theorem tT(x):aK x= .agg (l_ x):=by cases x;simp[mu,l_,Ex.k,Ex.n,Ex.no,Ex.name,Ex.l]
theorem jj(p):iI p= .agg [.str ⟨⟨p.name⟩⟩,.sl (bq p.kinds) .free,.sl (bq p.bf) .free,.sl (p.rules.map bY) .free,.int .i64 p.change.k,.int .i64 p.change.n,.int .i64 p.change.no,.str ⟨⟨p.change.name⟩⟩,.sl (p.change.l.map aK) .free,.int .i64 p.mode]:=by simp[iI,DT,tT,l_,AV.cells]
theorem rO(r):bY r= .agg [.str ⟨⟨r.kind⟩⟩,.int .i64 r.lK,.int .i64 r.g_,.int .i64 r.x.k,.int .i64 r.x.n,.int .i64 r.x.no,.str ⟨⟨r.x.name⟩⟩,.sl (r.x.l.map aK) .free]:=by simp[bY,tT,l_,AV.cells]
theorem dM(x):aK x= .agg [.int .i64 x.k,.int .i64 x.n,.int .i64 x.no,.str ⟨⟨x.name⟩⟩,.sl (x.l.map aK) .free]:=tT x
theorem aj5(Γ p h)(hs:lO p):AC Γ 71 [iI p] h (.bool (!nM p)):=by
 refine az.drop ?_;refine cS [.tmp 2] Tryz.func71 ?_;have c1:=fun h=>YM Γ p.change h hs.change;have hk:=hs.kinds;have ho:=hs.bf;have hr:=hs.rules;have hd:(!nM p)=!(decide (p.bf.length<=32/\p.kinds.length<=16/\p.rules.length<=16)&&((p.rules.map Rl.x).all (fun x=>!lN x)&&!lN p.change)):=by simp[nM,exprs]
 rw[jj];rw[dM]at c1;simp(disch:=omega) only[go_sem,seval,kA];refine aJ.intro (fun h1=>?_) (fun h1=>?_)<;>simp(disch:=omega) only[go_sem,seval,kA]
 .grind
 refine aJ.intro (fun h2=>?_) (fun h2=>?_)<;>simp(disch:=omega) only[go_sem,seval,List.length_map]
 .grind
 refine aJ.intro (fun h3=>?_) (fun h3=>?_)<;>simp(disch:=omega) only[go_sem,seval]
 .grind
 rw[decide_eq_true (by omega),Bool.true_and]at hd;refine bL (c1 _) ?_;cases hc:lN p.change<;>rw[hc]at hd<;>simp(disch:=omega) only[go_sem,seval]
 .refine d_ (β:=Unit) p.rules [1,3] (fun ae _=>[(1,.ptr (some (h.length,0))),(3,.int .i64 ae.length)]) (fun _=>h++[.row [.str ⟨⟨p.name⟩⟩,.sl (bq p.kinds) .free,.sl (bq p.bf) .free,.sl (p.rules.map bY) .free,.int .i64 p.change.k,.int .i64 p.change.n,.int .i64 p.change.no,.str ⟨⟨p.change.name⟩⟩,.sl (p.change.l.map aK) .free,.int .i64 p.mode] 28]) (fun ae _ _=>∀r∈ae,lN r.x=false) () ?_ rfl (by simp) ?_ ?_
  .exact dL
  .rintro ae x r _ bT hp;have hlen:p.rules.length=ae.length+1+r.length:=by rw[bT];simp;omega
   have e1:(p.rules.map bY)[ae.length]? =some (bY x):=by rw[bT];exact fZ ..
   have hx:x∈p.rules:=by rw[bT];simp
   have c2:=fun h=>YM Γ x.x h (hs.xD x hx);rw[dM]at c2;rw[rO]at e1;simp(disch:=omega) only[go_sem,seval,List.length_map];refine aJ.pos (by omega) ?_;simp(disch:=omega) only[go_sem,seval,e1];refine bL (c2 _) ?_;cases hl:lN x.x<;>simp(disch:=omega) only[go_sem,seval]
   .refine cd () ?_ ?_ rfl
    .grind
    .simp(disch:=omega) only[go_sem,seval,List.length_append]
   grind
  .rintro _ hp;simp(disch:=omega) only[go_sem,seval,List.length_map];refine fE [] ?_;grind
 .rw[hd];simp
theorem YN(Γ)(l:List Tx)(h)(hl:l.length<=9223372036854775807)(ht:∀s∈l,s.length<=9223372036854775807):AC Γ 136 [.sl (bq l) .free] h (.bool (uN l)):=by
 refine az.drop ?_;refine cY [.tmp 2] Tryz.func136 ?_;refine d_ (β:=Unit) l [0,3] (fun ae _=>[(0,.sl (bq l) .free),(3,.int .i64 ae.length)]) (fun _=>h) (fun ae r _=>uN l=Cl ae r) () ?_ rfl rfl ?_ ?_
 .simp(disch:=omega) only[go_sem,seval,List.length_nil]
 .rintro ae x r _ hd hp;have hlen:l.length=ae.length+1+r.length:=by rw[hd];simp;omega
  have e1:(bq l)[ae.length]? =some (.str ⟨⟨x⟩⟩):=by rw[hd];exact yY ae r x
  have hx:x∈l:=by rw[hd];simp
  rw[hp,Cl];simp(disch:=omega) only[go_sem,seval,kA];refine aJ.pos (by omega) ?_;simp(disch:=omega) only[go_sem,seval,e1];refine bL (YD Γ x _ (ht x hx)) ?_;cases hf:rM x<;>simp(disch:=omega) only[go_sem,seval,e1];refine bL (Jl Γ l x _ hl) ?_;refine aJ.intro (fun hc=>?_) (fun hc=>?_)<;>simp(disch:=omega) only[go_sem,seval]
  .refine cd () ?_ ?_ rfl
   .rw[<-hd,hc];simp
   .simp(disch:=omega) only[go_sem,seval,List.length_append]
  grind
 .rintro _ hp;simp(disch:=omega) only[go_sem,seval,kA];refine fE [] ?_;rw[hp];rfl
theorem Nb(Γ:GG)(o:List Tx)(ho:o.length<=9223372036854775807):∀(m:Nat) (x:Ex) (h:AH),SizeOf.sizeOf x<m->fj x->AC Γ 137 [.sl (bq o) .free,aK x] h (.bool (de (kh o) x))
 |0,_,_,hk,_=>absurd hk (Nat.not_lt_zero _)
 |m+1,.mk k n no s l,h,cj,hs=>by
  refine az.drop ?_;refine cS [.tmp 4] Tryz.func137 ?_;simp only[mu];refine aU ?_;have nN:=hs.len;rw[de,DY];have hd:kh o (.mk k n no s l)=(!(k==1||k==2)||decide (0<=iK o s)):=rfl;rw[hd];refine aJ.intro (fun h1=>?_) (fun h1=>?_)<;>simp(disch:=omega) only[go_sem,seval]
  .refine bL (Jl Γ o s _ ho) ?_;refine aJ.intro (fun h2=>?_) (fun h2=>?_)<;>simp(disch:=omega) only[go_sem,seval]
   .grind
   rw[decide_eq_true (p:=0<=_) (by omega),Bool.or_true]at hd|-;refine d_ (β:=Unit) l [0,3,5] (fun ae _=>[(0,.sl (bq o) .free),(3,.ptr (some (h.length,0))),(5,.int .i64 ae.length)]) (fun _=>h++[.row [.int .i64 k,.int .i64 n,.int .i64 no,.str ⟨⟨s⟩⟩,.sl (l.map aK) .free] 26]) (fun ae _ _=>ae.all (de (kh o))=true) () ?_ rfl rfl ?_ ?_
   .exact dL
   .rintro ae x r _ bT hp;have hlen:l.length=ae.length+1+r.length:=by rw[bT];simp;omega
    have e1:(l.map aK)[ae.length]? =some (aK x):=by rw[bT];exact fZ ..
    have hx:x∈l:=by rw[bT];simp
    simp(disch:=omega) only[go_sem,seval,List.length_map];refine aJ.pos (by omega) ?_;simp(disch:=omega) only[go_sem,seval,e1];refine bL (Nb Γ o ho m x _ (pX hx cj) (hs.mem x hx)) ?_;cases hl:de (kh o) x<;>simp(disch:=omega) only[go_sem,seval]
    .grind
    .refine cd () (by grind) ?_ rfl;simp(disch:=omega) only[go_sem,seval,List.length_append]
   .rintro _ hp;simp(disch:=omega) only[go_sem,seval,List.length_map];refine fE [] ?_;rw[hp]
  .refine aJ.intro (fun h3=>?_) (fun h3=>?_)<;>simp(disch:=omega) only[go_sem,seval]
   .refine bL (Jl Γ o s _ ho) ?_;refine aJ.intro (fun h2=>?_) (fun h2=>?_)<;>simp(disch:=omega) only[go_sem,seval]
    .grind
    rw[decide_eq_true (p:=0<=_) (by omega),Bool.or_true]at hd|-;refine d_ (β:=Unit) l [0,3,5] (fun ae _=>[(0,.sl (bq o) .free),(3,.ptr (some (h.length,0))),(5,.int .i64 ae.length)]) (fun _=>h++[.row [.int .i64 k,.int .i64 n,.int .i64 no,.str ⟨⟨s⟩⟩,.sl (l.map aK) .free] 26]) (fun ae _ _=>ae.all (de (kh o))=true) () ?_ rfl rfl ?_ ?_
    .exact dL
    .rintro ae x r _ bT hp;have hlen:l.length=ae.length+1+r.length:=by rw[bT];simp;omega
     have e1:(l.map aK)[ae.length]? =some (aK x):=by rw[bT];exact fZ ..
     have hx:x∈l:=by rw[bT];simp
     simp(disch:=omega) only[go_sem,seval,List.length_map];refine aJ.pos (by omega) ?_;simp(disch:=omega) only[go_sem,seval,e1];refine bL (Nb Γ o ho m x _ (pX hx cj) (hs.mem x hx)) ?_;cases hl:de (kh o) x<;>simp(disch:=omega) only[go_sem,seval]
     .grind
     .refine cd () (by grind) ?_ rfl;simp(disch:=omega) only[go_sem,seval,List.length_append]
    .rintro _ hp;simp(disch:=omega) only[go_sem,seval,List.length_map];refine fE [] ?_;rw[hp]
   .have hf:(k==1||k==2)=false:=by simp[h1,h3]
    rw[hf,Bool.not_false,Bool.true_or]at hd|-;refine d_ (β:=Unit) l [0,3,5] (fun ae _=>[(0,.sl (bq o) .free),(3,.ptr (some (h.length,0))),(5,.int .i64 ae.length)]) (fun _=>h++[.row [.int .i64 k,.int .i64 n,.int .i64 no,.str ⟨⟨s⟩⟩,.sl (l.map aK) .free] 26]) (fun ae _ _=>ae.all (de (kh o))=true) () ?_ rfl rfl ?_ ?_
    .exact dL
    .rintro ae x r _ bT hp;have hlen:l.length=ae.length+1+r.length:=by rw[bT];simp;omega
     have e1:(l.map aK)[ae.length]? =some (aK x):=by rw[bT];exact fZ ..
     have hx:x∈l:=by rw[bT];simp
     simp(disch:=omega) only[go_sem,seval,List.length_map];refine aJ.pos (by omega) ?_;simp(disch:=omega) only[go_sem,seval,e1];refine bL (Nb Γ o ho m x _ (pX hx cj) (hs.mem x hx)) ?_;cases hl:de (kh o) x<;>simp(disch:=omega) only[go_sem,seval]
     .grind
     .refine cd () (by grind) ?_ rfl;simp(disch:=omega) only[go_sem,seval,List.length_append]
    .rintro _ hp;simp(disch:=omega) only[go_sem,seval,List.length_map];refine fE [] ?_;rw[hp]
theorem YO(Γ)(o:List Tx)(x h)(ho:o.length<=9223372036854775807)(hs:fj x):AC Γ 137 [.sl (bq o) .free,aK x] h (.bool (de (kh o) x)):=
 Nb Γ o ho _ x h (Nat.lt_succ_self _) hs
theorem aj6(Γ p h)(hs:lO p):AC Γ 72 [iI p] h (.bool (ot p)):=by
 refine az.drop ?_;refine cS [.tmp 2] Tryz.func72 ?_;have c1:=fun h=>YO Γ p.bf p.change h hs.bf hs.change;have hr:=hs.rules;have hd:ot p=(rM p.name&&uN p.bf&&uN p.kinds&&((p.rules.map Rl.x).all (de (kh p.bf))&&de (kh p.bf) p.change)):=by simp[ot,exprs]
 rw[jj];rw[dM]at c1;refine aU ?_;refine bL (YD Γ p.name _ hs.name) ?_;cases h1:rM p.name<;>rw[h1]at hd<;>simp(disch:=omega) only[go_sem,seval]
 .rw[hd];rfl
 refine bL (YN Γ p.bf _ hs.bf hs.RJ) ?_;cases h2:uN p.bf<;>rw[h2]at hd<;>simp(disch:=omega) only[go_sem,seval]
 .rw[hd];rfl
 refine bL (YN Γ p.kinds _ hs.kinds hs.RI) ?_;cases h3:uN p.kinds<;>rw[h3]at hd<;>simp(disch:=omega) only[go_sem,seval]
 .rw[hd];rfl
 refine d_ (β:=Unit) p.rules [1,3] (fun ae _=>[(1,.ptr (some (h.length,0))),(3,.int .i64 ae.length)]) (fun _=>h++[.row [.str ⟨⟨p.name⟩⟩,.sl (bq p.kinds) .free,.sl (bq p.bf) .free,.sl (p.rules.map bY) .free,.int .i64 p.change.k,.int .i64 p.change.n,.int .i64 p.change.no,.str ⟨⟨p.change.name⟩⟩,.sl (p.change.l.map aK) .free,.int .i64 p.mode] 28]) (fun ae _ _=>(ae.map Rl.x).all (de (kh p.bf))=true) () ?_ rfl rfl ?_ ?_
 .exact dL
 .rintro ae x r _ bT hp;have hlen:p.rules.length=ae.length+1+r.length:=by rw[bT];simp;omega
  have e1:(p.rules.map bY)[ae.length]? =some (bY x):=by rw[bT];exact fZ ..
  have hx:x∈p.rules:=by rw[bT];simp
  have c2:=fun h=>YO Γ p.bf x.x h hs.bf (hs.xD x hx);rw[dM]at c2;rw[rO]at e1;simp(disch:=omega) only[go_sem,seval,List.length_map];refine aJ.pos (by omega) ?_;simp(disch:=omega) only[go_sem,seval,e1];refine bu (gY.intro (fun _=>c2 _)) ?_;cases hl:de (kh p.bf) x.x<;>simp(disch:=omega) only[go_sem,seval]
  .grind
  .refine cd () ?_ ?_ rfl
   .grind
   .simp(disch:=omega) only[go_sem,seval,List.length_append]
 .rintro _ hp;simp(disch:=omega) only[go_sem,seval,List.length_map];refine fE [1] ?_;refine bL (c1 _) ?_;rw[hd,hp];rfl
theorem nil_eq(s:Tx):(s==[])=s.isEmpty:=by cases s<;>rfl
theorem YP(Γ:GG)(u:Bool):∀(m:Nat) (x:Ex) (h:AH),SizeOf.sizeOf x<m->fj x->AC Γ 138 [aK x,.bool u] h (.bool (de (iC u) x))
 |0,_,_,hk,_=>absurd hk (Nat.not_lt_zero _)
 |m+1,.mk k n no s l,h,cj,hs=>by
  refine az.drop ?_;refine cS [.tmp 4] Tryz.func138 ?_;simp only[mu];refine aU ?_;have nN:=hs.len;rw[de,DY];refine d_ (β:=Unit) l [1,2,5] (fun ae _=>[(1,.bool u),(2,.ptr (some (h.length,0))),(5,.int .i64 ae.length)]) (fun _=>h++[.row [.int .i64 k,.int .i64 n,.int .i64 no,.str ⟨⟨s⟩⟩,.sl (l.map aK) .free] 26]) (fun ae _ _=>ae.all (de (iC u))=true) () ?_ rfl rfl ?_ ?_
  .exact dL
  .rintro ae x r _ bT hp;have hlen:l.length=ae.length+1+r.length:=by rw[bT];simp;omega
   have e1:(l.map aK)[ae.length]? =some (aK x):=by rw[bT];exact fZ ..
   have hx:x∈l:=by rw[bT];simp
   simp(disch:=omega) only[go_sem,seval,List.length_map];refine aJ.pos (by omega) ?_;simp(disch:=omega) only[go_sem,seval,e1];refine bL (YP Γ u m x _ (pX hx cj) (hs.mem x hx)) ?_;cases hl:de (iC u) x<;>simp(disch:=omega) only[go_sem,seval]
   .grind
   .refine cd () (by grind) ?_ rfl;simp(disch:=omega) only[go_sem,seval,List.length_append]
  .rintro _ hp;rw[hp,Bool.and_true];simp(disch:=omega) only[go_sem,seval,List.length_map];refine fE [1,2] ?_;have hd:iC u (.mk k n no s l)=((if k=1 then decide (n=0/\l.length=0)
 else if k=2 then decide (1<=n/\n<=4096/\l.length=0)
 else if k=3 then decide (s.length=0/\1<=l.length/\l.length<=16/\1<=n/\n<=l.length)
 else if k=4 then decide (s.length=0/\l.length=2/\0<=n/\n<=1099511627776)
 else false)&&(u||!(k==4))):=rfl
   rw[hd];refine aJ.intro (fun h1=>?_) (fun h1=>?_)<;>simp(disch:=omega) only[go_sem,seval]
   .simp only[h1,if_true,Bool.and_true,Bool.or_true,show((1:Int)==4)=false from rfl,Bool.not_false];refine aJ.intro (fun h2=>?_) (fun h2=>?_)<;>simp(disch:=omega) only[go_sem,seval,List.length_map]
    .simp_all
    .rw[decide_eq_false (by omega)]
   simp only[if_neg h1];refine aJ.intro (fun h1=>?_) (fun h1=>?_)<;>simp(disch:=omega) only[go_sem,seval]
   .simp only[h1,if_true,Bool.and_true,Bool.or_true,show((2:Int)==4)=false from rfl,Bool.not_false];refine aJ.intro (fun h2=>?_) (fun h2=>?_)<;>simp(disch:=omega) only[go_sem,seval]
    .refine aJ.intro (fun h3=>?_) (fun h3=>?_)<;>simp(disch:=omega) only[go_sem,seval,List.length_map]
     .simp_all
     .rw[decide_eq_false (by omega)]
    .rw[decide_eq_false (by omega)]
   simp only[if_neg h1];refine aJ.intro (fun h1=>?_) (fun h1=>?_)<;>simp(disch:=omega) only[go_sem,seval,fK]
   .simp only[h1,if_true,Bool.and_true,Bool.or_true,show((3:Int)==4)=false from rfl,Bool.not_false];cases s with
    |cons b t=>
     simp(disch:=omega) only[go_sem,seval,List.length_cons,nil_eq,List.isEmpty_cons];simp
    |nil=>
    simp(disch:=omega) only[go_sem,seval,List.length_map,nil_eq,List.isEmpty_nil];refine aJ.intro (fun h2=>?_) (fun h2=>?_)<;>simp(disch:=omega) only[go_sem,seval,List.length_map];rotate_left
    .rw[decide_eq_false (by omega)]
    refine aJ.intro (fun h3=>?_) (fun h3=>?_)<;>simp(disch:=omega) only[go_sem,seval];rotate_left
    .rw[decide_eq_false (by omega)]
    refine aJ.intro (fun h4=>?_) (fun h4=>?_)<;>simp(disch:=omega) only[go_sem,seval,List.length_map];rotate_left
    .rw[decide_eq_false (by omega)]
    grind
   simp only[if_neg h1];refine aJ.intro (fun h1=>?_) (fun h1=>?_)<;>simp(disch:=omega) only[go_sem,seval]
   .simp only[h1,if_true,show((4:Int)==4)=true from rfl,Bool.not_true,Bool.or_false];cases u
    .exact dL
    simp(disch:=omega) only[go_sem,seval,fK,nil_eq,Bool.and_true];cases s with
    |cons b t=>
     simp(disch:=omega) only[go_sem,seval,List.length_cons,List.isEmpty_cons];simp
    |nil=>
    simp(disch:=omega) only[go_sem,seval,List.length_map,List.isEmpty_nil];refine aJ.intro (fun h2=>?_) (fun h2=>?_)<;>simp(disch:=omega) only[go_sem,seval];rotate_left
    .rw[decide_eq_false (by omega)]
    refine aJ.intro (fun h3=>?_) (fun h3=>?_)<;>simp(disch:=omega) only[go_sem,seval];rotate_left
    .rw[decide_eq_false (by omega)]
    congr 1;exact decide_eq_decide.2 (by omega)
   grind
theorem YQ(Γ u x h)(hs:fj x):AC Γ 138 [aK x,.bool u] h (.bool (de (iC u) x)):=
 YP Γ u _ x h (Nat.lt_succ_self _) hs
theorem Jm(k:Tx)(r:Rl):∀(ks:List Tx) (rs:List Rl) (DZ:List Tx) (Jn:List Rl),ks.length=rs.length->l9 (ks++k::DZ) (rs++r::Jn)=(l9 ks rs&&((r.kind==k)&&decide (0<=r.g_/\r.g_<=1099511627775))&&l9 DZ Jn)
 |[],[],DZ,Jn,_=>by simp[l9]
 |[],_::_,_,_,h=>by simp at h
 |_::_,[],_,_,h=>by simp at h
 |a::ks,b::rs,DZ,Jn,h=>by rw[List.cons_append,List.cons_append,l9,l9,Jm k r ks rs DZ Jn (by simpa using h)];simp only[Bool.and_assoc]
theorem YR(ks):l9 ks []=true:=by cases ks<;>rfl
theorem aj7(Γ p h)(hs:lO p):AC Γ 73 [iI p] h (.bool (ou p)):=by
 refine az.drop ?_;refine cS [.tmp 2] Tryz.func73 ?_;have c1:=fun h=>YQ Γ false p.change h hs.change;have hr:=hs.rules;have hk:=hs.kinds;have hd:ou p=(decide (0<p.kinds.length/\p.rules.length=p.kinds.length/\1<=p.mode/\p.mode<=4)&&l9 p.kinds p.rules&&p.rules.all (fun r=>de (iC true) r.x)&&de (iC false) p.change):=rfl;rw[jj];rw[dM]at c1;simp(disch:=omega) only[go_sem,seval,kA];refine aJ.intro (fun h1=>?_) (fun h1=>?_)<;>simp(disch:=omega) only[go_sem,seval,kA,List.length_map]
 .grind
 refine aJ.intro (fun h2=>?_) (fun h2=>?_)<;>simp(disch:=omega) only[go_sem,seval];rotate_left
 .grind
 refine aJ.intro (fun h3=>?_) (fun h3=>?_)<;>simp(disch:=omega) only[go_sem,seval]
 .grind
 refine aJ.intro (fun h4=>?_) (fun h4=>?_)<;>simp(disch:=omega) only[go_sem,seval]
 .grind
 rw[decide_eq_true (by omega),Bool.true_and]at hd;obtain⟨K,hK⟩:∃K:AH->AH,K=fun l=>h++ .row [.str ⟨⟨p.name⟩⟩,.sl (bq p.kinds) .free,.sl (bq p.bf) .free,.sl (p.rules.map bY) .free,.int .i64 p.change.k,.int .i64 p.change.n,.int .i64 p.change.no,.str ⟨⟨p.change.name⟩⟩,.sl (p.change.l.map aK) .free,.int .i64 p.mode] 28::l:=⟨_,rfl⟩;refine d_ (β:=AH) p.rules [1,3] (fun ae _=>[(1,.ptr (some (h.length,0))),(3,.int .i64 ae.length)]) (fun j=>h++ .row [.str ⟨⟨p.name⟩⟩,.sl (bq p.kinds) .free,.sl (bq p.bf) .free,.sl (p.rules.map bY) .free,.int .i64 p.change.k,.int .i64 p.change.n,.int .i64 p.change.no,.str ⟨⟨p.change.name⟩⟩,.sl (p.change.l.map aK) .free,.int .i64 p.mode] 28::j) (fun ae _ _=>l9 (p.kinds.take ae.length) ae=true/\ae.all (fun r=>de (iC true) r.x)=true) [] ?_ rfl ⟨rfl,rfl⟩ ?_ ?_
 .exact dL
 .rintro ae x r j bT ⟨hp,hq⟩;have hlen:p.rules.length=ae.length+1+r.length:=by rw[bT];simp;omega
  have e1:(p.rules.map bY)[ae.length]? =some (bY x):=by rw[bT];exact fZ ..
  have hx:x∈p.rules:=by rw[bT];simp
  obtain⟨k,AA⟩:∃k,p.kinds[ae.length]? =some k:=⟨_,List.getElem?_eq_getElem (by omega)⟩;have e2:(bq p.kinds)[ae.length]? =some (.str ⟨⟨k⟩⟩):=by simp[bq,AA]
  have RK:p.kinds=p.kinds.take ae.length++k::p.kinds.drop (ae.length+1):=by
   have dN:ae.length<p.kinds.length:=by omega
   rw[List.getElem?_eq_getElem dN]at AA;cases AA;simp_all
  have oJ:(p.kinds.take ae.length).length=ae.length:=by rw[List.length_take];omega
  have Jo:l9 p.kinds p.rules=((x.kind==k)&&decide (0<=x.g_/\x.g_<=1099511627775)&&l9 (p.kinds.drop (ae.length+1)) r):=by conv=>lhs;rw[RK,bT,Jm k x _ _ _ _ oJ,hp,Bool.true_and]
  have Nc:p.rules.all (fun r=>de (iC true) r.x)=(de (iC true) x.x&&r.all (fun r=>de (iC true) r.x)):=by grind
  have jk:l9 (p.kinds.take (ae.length+1)) (ae++[x])=((x.kind==k)&&decide (0<=x.g_/\x.g_<=1099511627775)):=by rw[List.take_add_one,AA];have:=Jm k x (p.kinds.take ae.length) ae [] [] oJ;simp only[hp,YR,Bool.true_and,Bool.and_true]at this;exact this
  have c2:=fun h=>YQ Γ true x.x h (hs.xD x hx);rw[dM]at c2;rw[rO]at e1;simp(disch:=omega) only[go_sem,seval,List.length_map];refine aJ.pos (by omega) ?_;simp(disch:=omega) only[go_sem,seval,e1,e2,fK];cases h5:(x.kind==k)<;>rw[h5]at Jo jk<;>simp(disch:=omega) only[go_sem,seval]
  .rw[hd,Jo];rfl
  refine aJ.intro (fun h6=>?_) (fun h6=>?_)<;>simp(disch:=omega) only[go_sem,seval]
  .grind
  refine aJ.intro (fun h7=>?_) (fun h7=>?_)<;>simp(disch:=omega) only[go_sem,seval]
  .grind
  rw[decide_eq_true (by omega),Bool.true_and]at jk;refine bu (gY.intro (fun _=>c2 _)) ?_;cases hl:de (iC true) x.x<;>rw[hl]at Nc<;>simp(disch:=omega) only[go_sem,seval]
  .rw[hd,Nc];simp
  .refine cd (j++[.row [.str ⟨⟨x.kind⟩⟩,.int .i64 x.lK,.int .i64 x.g_,.int .i64 x.x.k,.int .i64 x.x.n,.int .i64 x.x.no,.str ⟨⟨x.x.name⟩⟩,.sl (x.x.l.map aK) .free] 64]) ?_ ?_ ?_
   .grind
   .simp(disch:=omega) only[go_sem,seval,List.length_append]
   .rfl
 .rintro j ⟨hp,hq⟩;rw[List.take_of_length_le (by omega)]at hp;simp(disch:=omega) only[go_sem,seval,List.length_map];refine fE [1] ?_;refine bL (c1 _) ?_;rw[hd,hp,hq];rfl
theorem fX.len{K K' j n own}(ho:fX K j n own)(e:K.length=K'.length):fX K' j n own:=by
 cases own with
 |full=>trivial
 |free=>exact ho
 |bN i=>obtain⟨i',h1,h2⟩:=ho;exact⟨i',by rw[h1,e],h2⟩
theorem RL(o k n no)(s:Tx)(l):dB o (.mk k n no s l)= .mk k n (mv o (.mk k n no s l)) s (l.map (dB o)):=by rw[dB,Na]
def kC(o:List Tx)(h:AH)(k n no w:Int)(s:Tx)(l dn:List Ex)(own:aS.Own):AH:=h++[.row [.int .i64 k,.int .i64 n,.int .i64 no,.str ⟨⟨s⟩⟩,.sl (l.map aK) .free] 26,.row [.int .i64 0,.int .i64 0,.int .i64 0,.str ⟨#[]⟩,.sl [] .full] 26,.row [.int .i64 k,.int .i64 n,.int .i64 w,.str ⟨⟨s⟩⟩,.sl (dn.map fun y=>aK (dB o y)) own] 26]
theorem Jp(o)(l:List Ex):db 5 (l.map fun y=>aK (dB o y)):=by have:=pY (l.map (dB o));rwa [List.map_map]at this
theorem Nd(Γ:GG)(o:List Tx)(ho:o.length<=9223372036854775807):∀(m:Nat) (x:Ex) (h:AH),SizeOf.sizeOf x<m->fj x->dT x<=1000000->AC Γ 74 [.sl (bq o) .free,aK x] h (aK (dB o x))
 |0,_,_,hk,_,_=>absurd hk (Nat.not_lt_zero _)
 |m+1,.mk k n no s l,h,cj,hs,sO=>by
  refine az.ji ?_;refine cS [.cell 4 26] Tryz.func74 ?_;simp only[mu,RL];refine aU ?_;have nN:=hs.len;rw[dT]at sO;have wa:mv o (.mk k n no s l)=if(k==1||k==2)then iK o s else 0:=rfl
  refine aJ.intro (fun h1=>?_) (fun h1=>?_)<;>simp(disch:=omega) only[go_sem,seval]
  .refine bL (Jl Γ o s _ ho) ?_;obtain⟨w,hw⟩:∃w:Int,w=iK o s:=⟨_,rfl⟩;rw[<-hw];have D1:mv o (.mk k n no s l)=w:=by rw[wa,hw];simp[h1]
   rw[D1];refine d_ (β:=List Ex×aS.Own×AH) l [0,3,4,5,6] (fun ae _=>[(0,.sl (bq o) .free),(3,.ptr (some (h.length,0))),(4,.ptr (some (h.length+1,0))),(5,.ptr (some (h.length+2,0))),(6,.int .i64 ae.length)]) (fun b=>kC o h k n no w s l b.1 b.2.1++b.2.2) (fun ae _ b=>b.1=ae/\fX (kC o h k n no w s l b.1 b.2.1) b.2.2 ae.length b.2.1) ([],.full,[]) ?_ (by simp[kC,hw]) ⟨rfl,trivial⟩ ?_ ?_
   .exact dL
   .rintro ae x r ⟨dn,own,X⟩ bT ⟨rfl,cP⟩;simp only at cP|-;have hlen:l.length=dn.length+1+r.length:=by rw[bT];simp;omega
    have e1:(l.map aK)[dn.length]? =some (aK x):=by rw[bT];exact fZ ..
    have hx:x∈l:=by rw[bT];simp
    have hb:=Ck hx;have qz:=FZ l;simp(disch:=omega) only[go_sem,seval,List.length_map,kC];refine aJ.pos (by omega) ?_;simp(disch:=omega) only[go_sem,seval,e1];refine gY.intro (fun _=>Nd Γ o ho m x _ (pX hx cj) (hs.mem x hx) (by omega)) ?_;simp(disch:=omega) only[go_sem,seval];have eh:∀dn own X,h++ .row [.int .i64 k,.int .i64 n,.int .i64 no,.str ⟨⟨s⟩⟩,.sl (l.map aK) .free] 26:: .row [.int .i64 0,.int .i64 0,.int .i64 0,.str ⟨#[]⟩,.sl [] .full] 26:: .row [.int .i64 k,.int .i64 n,.int .i64 w,.str ⟨⟨s⟩⟩,.sl (dn.map fun y=>aK (dB o y)) own] 26::X=kC o h k n no w s l dn own++X:=fun dn own X=>by simp[kC]
    rw[eh];refine pV (by rw[List.length_map];exact cP) (Jp o _) (pY [dB o x]) (by simp;omega) (by simp;omega) fun j' eY iG hg=>?_;rw[kC];refine aU ?_;refine cd (dn++[x],eY,j') ⟨rfl,?_⟩ ?_ ?_
    .refine fX.len (K:=kC o h k n no w s l dn own) ?_ (by simp[kC]);simpa using iG
    .simp(disch:=omega) only[go_sem,seval,List.length_append]
    .simp
   .rintro⟨dn,own,X⟩ ⟨rfl,cP⟩;simp only at cP|-;simp(disch:=omega) only[go_sem,seval,List.length_map,kC];refine jL [4,5] ?_;simp(disch:=omega) only[go_sem,seval];rw[show dn.map (fun y=>aK (dB o y))=(dn.map (dB o)).map aK from by rw[List.map_map];rfl,xC];exact⟨uM _ _▸trivial,rfl⟩
  .refine aJ.intro (fun h2=>?_) (fun h2=>?_)<;>simp(disch:=omega) only[go_sem,seval]
   .refine bL (Jl Γ o s _ ho) ?_;obtain⟨w,hw⟩:∃w:Int,w=iK o s:=⟨_,rfl⟩;rw[<-hw];have D1:mv o (.mk k n no s l)=w:=by rw[wa,hw];simp[h2]
    rw[D1];refine d_ (β:=List Ex×aS.Own×AH) l [0,3,4,5,6] (fun ae _=>[(0,.sl (bq o) .free),(3,.ptr (some (h.length,0))),(4,.ptr (some (h.length+1,0))),(5,.ptr (some (h.length+2,0))),(6,.int .i64 ae.length)]) (fun b=>kC o h k n no w s l b.1 b.2.1++b.2.2) (fun ae _ b=>b.1=ae/\fX (kC o h k n no w s l b.1 b.2.1) b.2.2 ae.length b.2.1) ([],.full,[]) ?_ (by simp[kC,hw]) ⟨rfl,trivial⟩ ?_ ?_
    .exact dL
    .rintro ae x r ⟨dn,own,X⟩ bT ⟨rfl,cP⟩;simp only at cP|-;have hlen:l.length=dn.length+1+r.length:=by rw[bT];simp;omega
     have e1:(l.map aK)[dn.length]? =some (aK x):=by rw[bT];exact fZ ..
     have hx:x∈l:=by rw[bT];simp
     have hb:=Ck hx;have qz:=FZ l;simp(disch:=omega) only[go_sem,seval,List.length_map,kC];refine aJ.pos (by omega) ?_;simp(disch:=omega) only[go_sem,seval,e1];refine gY.intro (fun _=>Nd Γ o ho m x _ (pX hx cj) (hs.mem x hx) (by omega)) ?_;simp(disch:=omega) only[go_sem,seval];have eh:∀dn own X,h++ .row [.int .i64 k,.int .i64 n,.int .i64 no,.str ⟨⟨s⟩⟩,.sl (l.map aK) .free] 26:: .row [.int .i64 0,.int .i64 0,.int .i64 0,.str ⟨#[]⟩,.sl [] .full] 26:: .row [.int .i64 k,.int .i64 n,.int .i64 w,.str ⟨⟨s⟩⟩,.sl (dn.map fun y=>aK (dB o y)) own] 26::X=kC o h k n no w s l dn own++X:=fun dn own X=>by simp[kC]
     rw[eh];refine pV (by rw[List.length_map];exact cP) (Jp o _) (pY [dB o x]) (by simp;omega) (by simp;omega) fun j' eY iG hg=>?_;rw[kC];refine aU ?_;refine cd (dn++[x],eY,j') ⟨rfl,?_⟩ ?_ ?_
     .refine fX.len (K:=kC o h k n no w s l dn own) ?_ (by simp[kC]);simpa using iG
     .simp(disch:=omega) only[go_sem,seval,List.length_append]
     .simp
    .rintro⟨dn,own,X⟩ ⟨rfl,cP⟩;simp only at cP|-;simp(disch:=omega) only[go_sem,seval,List.length_map,kC];refine jL [4,5] ?_;simp(disch:=omega) only[go_sem,seval];rw[show dn.map (fun y=>aK (dB o y))=(dn.map (dB o)).map aK from by rw[List.map_map];rfl,xC];exact⟨uM _ _▸trivial,rfl⟩
   .obtain⟨w0,o6⟩:∃w:Int,w=0:=⟨_,rfl⟩;obtain⟨w,hw⟩:∃w:Int,w=0:=⟨_,rfl⟩;rw[show(AV.int .i64 0:AV)= .int .i64 0 from rfl];have D1:mv o (.mk k n no s l)=w:=by rw[wa,hw];simp[h1,h2]
    rw[D1];refine d_ (β:=List Ex×aS.Own×AH) l [0,3,4,5,6] (fun ae _=>[(0,.sl (bq o) .free),(3,.ptr (some (h.length,0))),(4,.ptr (some (h.length+1,0))),(5,.ptr (some (h.length+2,0))),(6,.int .i64 ae.length)]) (fun b=>kC o h k n no w s l b.1 b.2.1++b.2.2) (fun ae _ b=>b.1=ae/\fX (kC o h k n no w s l b.1 b.2.1) b.2.2 ae.length b.2.1) ([],.full,[]) ?_ (by simp[kC,hw]) ⟨rfl,trivial⟩ ?_ ?_
    .exact dL
    .rintro ae x r ⟨dn,own,X⟩ bT ⟨rfl,cP⟩;simp only at cP|-;have hlen:l.length=dn.length+1+r.length:=by rw[bT];simp;omega
     have e1:(l.map aK)[dn.length]? =some (aK x):=by rw[bT];exact fZ ..
     have hx:x∈l:=by rw[bT];simp
     have hb:=Ck hx;have qz:=FZ l;simp(disch:=omega) only[go_sem,seval,List.length_map,kC];refine aJ.pos (by omega) ?_;simp(disch:=omega) only[go_sem,seval,e1];refine gY.intro (fun _=>Nd Γ o ho m x _ (pX hx cj) (hs.mem x hx) (by omega)) ?_;simp(disch:=omega) only[go_sem,seval];have eh:∀dn own X,h++ .row [.int .i64 k,.int .i64 n,.int .i64 no,.str ⟨⟨s⟩⟩,.sl (l.map aK) .free] 26:: .row [.int .i64 0,.int .i64 0,.int .i64 0,.str ⟨#[]⟩,.sl [] .full] 26:: .row [.int .i64 k,.int .i64 n,.int .i64 w,.str ⟨⟨s⟩⟩,.sl (dn.map fun y=>aK (dB o y)) own] 26::X=kC o h k n no w s l dn own++X:=fun dn own X=>by simp[kC]
     rw[eh];refine pV (by rw[List.length_map];exact cP) (Jp o _) (pY [dB o x]) (by simp;omega) (by simp;omega) fun j' eY iG hg=>?_;rw[kC];refine aU ?_;refine cd (dn++[x],eY,j') ⟨rfl,?_⟩ ?_ ?_
     .refine fX.len (K:=kC o h k n no w s l dn own) ?_ (by simp[kC]);simpa using iG
     .simp(disch:=omega) only[go_sem,seval,List.length_append]
     .simp
    .rintro⟨dn,own,X⟩ ⟨rfl,cP⟩;simp only at cP|-;simp(disch:=omega) only[go_sem,seval,List.length_map,kC];refine jL [4,5] ?_;simp(disch:=omega) only[go_sem,seval];rw[show dn.map (fun y=>aK (dB o y))=(dn.map (dB o)).map aK from by rw[List.map_map];rfl,xC];exact⟨uM _ _▸trivial,rfl⟩
theorem YS(Γ)(o:List Tx)(x h)(ho:o.length<=9223372036854775807)(hs:fj x)(hl:dT x<=1000000):AC Γ 74 [.sl (bq o) .free,aK x] h (aK (dB o x)):=
 Nd Γ o ho _ x h (Nat.lt_succ_self _) hs hl
def Jq:iq:=⟨[],[],[],[],.mk 0 0 0 [] [],0⟩
def RM(p:iq):iq×Int:=if fi p=0 then(sN p,0)else(Jq,fi p)
def D2(r:iq×Int):AV:= .tuple [iI r.1,.int .i64 r.2]
theorem Nf(o:List Tx):∀(i:Int) (a b:List Rl),kB o i (a++b)=kB o i a++kB o (i+a.length) b
 |i,[],b=>by simp[kB]
 |i,x::a,b=>by rw[List.cons_append,kB,kB,Nf o (i+1) a b,List.cons_append,List.length_cons];congr 3;omega
theorem yZ(o:List Tx):∀(i:Int) (a:List Rl),(kB o i a).length=a.length
 |_,[]=>rfl
 |i,x::a=>by rw[kB,List.length_cons,List.length_cons,yZ]
theorem YT{x}(h:lN x=false):dT x<=256:=by simp[lN]at h;omega
theorem aj8{p}(h:nM p=true):(p.bf.length<=32/\p.kinds.length<=16/\p.rules.length<=16)/\(∀r∈p.rules,lN r.x=false)/\lN p.change=false:=by simp only[nM,exprs,Bool.and_eq_true,decide_eq_true_eq,List.all_append,List.all_map,List.all_cons,List.all_nil,Bool.and_true,Bool.not_eq_true']at h;grind
def y0(h:AH)(p:iq)(rs:List Rl)(own:aS.Own):AH:=h++[.row [.str ⟨⟨p.name⟩⟩,.sl (bq p.kinds) .free,.sl (bq p.bf) .free,.sl (p.rules.map bY) .free,.int .i64 p.change.k,.int .i64 p.change.n,.int .i64 p.change.no,.str ⟨⟨p.change.name⟩⟩,.sl (p.change.l.map aK) .free,.int .i64 p.mode] 28,.row [.str ⟨#[]⟩,.sl [] .full,.sl [] .full,.sl [] .full,.int .i64 0,.int .i64 0,.int .i64 0,.str ⟨#[]⟩,.sl [] .full,.int .i64 0] 28,.row [.str ⟨⟨p.name⟩⟩,.sl (bq p.kinds) .free,.sl (bq p.bf) .free,.sl (rs.map bY) own,.int .i64 p.change.k,.int .i64 p.change.n,.int .i64 p.change.no,.str ⟨⟨p.change.name⟩⟩,.sl (p.change.l.map aK) .free,.int .i64 p.mode] 28]
theorem aj9(Γ p h)(hs:lO p):AC Γ 26 [iI p] h (D2 (RM p)):=by
 have c1:=fun h=>aj5 Γ p h hs;have c2:=fun h=>aj6 Γ p h hs;have c3:=fun h=>aj7 Γ p h hs;have c4:=fun h hl=>YS Γ p.bf p.change h hs.bf hs.change hl;have hd:RM p=if fi p=0 then(sN p,0)else(Jq,fi p):=rfl
 have he:fi p=if nM p=false then 2 else if ot p=false then 201 else if ou p=false then 200 else 0:=rfl
 have hr:=hs.rules;have hz:iI Jq= .agg [.str ⟨#[]⟩,.sl [] .free,.sl [] .free,.sl [] .free,.int .i64 0,.int .i64 0,.int .i64 0,.str ⟨#[]⟩,.sl [] .free,.int .i64 0]:=by rw[jj];rfl
 refine az.ji ?_;refine cS [.cell 2 28,.tmp 3] Tryz.func26 ?_;rw[jj]at c1 c2 c3|-;rw[dM]at c4;refine aU ?_;refine bL (c1 _) ?_;cases h1:nM p<;>rw[h1]at he<;>simp(disch:=omega) only[go_sem,seval]
 .rw[hd,he];simp[D2,hz]
 have cj:=aj8 h1;refine bL (c2 _) ?_;cases h2:ot p<;>rw[h2]at he<;>simp(disch:=omega) only[go_sem,seval]
 .rw[hd,he];simp[D2,hz]
 refine bL (c3 _) ?_;cases h3:ou p<;>rw[h3]at he<;>simp(disch:=omega) only[go_sem,seval]
 .rw[hd,he];simp[D2,hz]
 have Dn:fi p=0:=he;rw[hd,Dn];simp only[if_true];refine d_ (β:=List Rl×aS.Own×AH) p.rules [1,2,4,5] (fun ae _=>[(1,.ptr (some (h.length,0))),(2,.ptr (some (h.length+1,0))),(4,.ptr (some (h.length+2,0))),(5,.int .i64 ae.length)]) (fun b=>y0 h p b.1 b.2.1++b.2.2) (fun ae _ b=>b.1=kB p.bf 0 ae/\fX (y0 h p b.1 b.2.1) b.2.2 ae.length b.2.1) ([],.full,[]) ?_ (by simp[y0]) ⟨rfl,trivial⟩ ?_ ?_
 .exact dL
 .rintro ae x r ⟨rs,own,X⟩ bT ⟨fJ,cP⟩;simp only at cP fJ|-;have hlen:p.rules.length=ae.length+1+r.length:=by rw[bT];simp;omega
  have e1:(p.rules.map bY)[ae.length]? =some (bY x):=by rw[bT];exact fZ ..
  have hx:x∈p.rules:=by rw[bT];simp
  have ik:rs.length=ae.length:=by rw[fJ,yZ]
  have c5:=fun h=>YS Γ p.bf x.x h hs.bf (hs.xD x hx) (by have:=YT (cj.2.1 x hx);omega);rw[dM]at c5;rw[rO]at e1;simp(disch:=omega) only[go_sem,seval,List.length_map,y0];refine aJ.pos (by omega) ?_;simp(disch:=omega) only[go_sem,seval,e1];refine az.cv (c5 _) ?_;simp(disch:=omega) only[go_sem,seval,dM (dB p.bf x.x),AV.cells];have RN:AV.agg [.str ⟨⟨x.kind⟩⟩,.int .i64 ae.length,.int .i64 x.g_,.int .i64 (dB p.bf x.x).k,.int .i64 (dB p.bf x.x).n,.int .i64 (dB p.bf x.x).no,.str ⟨⟨(dB p.bf x.x).name⟩⟩,.sl ((dB p.bf x.x).l.map aK) .free]=bY (uO p.bf ae.length x):=by rw[rO];rfl
  rw[RN];have eh:∀rs own X,h++ .row [.str ⟨⟨p.name⟩⟩,.sl (bq p.kinds) .free,.sl (bq p.bf) .free,.sl (p.rules.map bY) .free,.int .i64 p.change.k,.int .i64 p.change.n,.int .i64 p.change.no,.str ⟨⟨p.change.name⟩⟩,.sl (p.change.l.map aK) .free,.int .i64 p.mode] 28:: .row [.str ⟨#[]⟩,.sl [] .full,.sl [] .full,.sl [] .full,.int .i64 0,.int .i64 0,.int .i64 0,.str ⟨#[]⟩,.sl [] .full,.int .i64 0] 28:: .row [.str ⟨⟨p.name⟩⟩,.sl (bq p.kinds) .free,.sl (bq p.bf) .free,.sl (rs.map bY) own,.int .i64 p.change.k,.int .i64 p.change.n,.int .i64 p.change.no,.str ⟨⟨p.change.name⟩⟩,.sl (p.change.l.map aK) .free,.int .i64 p.mode] 28::X=y0 h p rs own++X:=fun rs own X=>by simp[y0]
  rw[eh];refine pV (by rw[List.length_map,ik];exact cP.app _) (FX _) (FX [uO p.bf ae.length x]) (by simp;omega) (by simp;omega) fun j' eY iG hg=>?_;rw[y0];refine aU ?_;refine cd (rs++[uO p.bf ae.length x],eY,j') ⟨?_,?_⟩ ?_ ?_
  .rw[fJ,Nf];simp[kB]
  .refine fX.len (K:=y0 h p rs own) ?_ (by simp[y0]);simpa [ik]using iG
  .simp(disch:=omega) only[go_sem,seval,List.length_append]
  .simp
 .rintro⟨rs,own,X⟩ ⟨fJ,cP⟩;simp only at cP fJ|-;simp(disch:=omega) only[go_sem,seval,List.length_map,y0];refine jL [1,2,4] ?_;simp(disch:=omega) only[go_sem,seval];refine az.cv (c4 _ (by have:=YT cj.2.2;omega)) ?_;simp(disch:=omega) only[go_sem,seval,dM (dB p.bf p.change),AV.cells];rw[D2,jj,fJ];rfl
theorem YU(Γ)(l:List Tx)(h)(hl:l.length<=9223372036854775807):AC Γ 39 [.sl (bq l) .free,.sl (bq l) .free] h (.bool true):=by
 refine az.drop ?_;refine cY [.tmp 4] Tryz.func39 ?_;refine d_ (β:=Unit) l [0,1,5] (fun ae _=>[(0,.sl (bq l) .free),(1,.sl (bq l) .free),(5,.int .i64 ae.length)]) (fun _=>h) (fun ae _ _=>True) () ?_ rfl trivial ?_ ?_
 .simp(disch:=omega) only[go_sem,seval,List.length_nil]
 .rintro ae x r _ hd _;have hlen:l.length=ae.length+1+r.length:=by rw[hd];simp;omega
  have e1:(bq l)[ae.length]? =some (.str ⟨⟨x⟩⟩):=by rw[hd];exact yY ae r x
  simp(disch:=omega) only[go_sem,seval,kA];refine aJ.pos (by omega) ?_;simp(disch:=omega) only[go_sem,seval,e1];refine cd () trivial ?_ rfl;simp(disch:=omega) only[go_sem,seval,List.length_append]
 .rintro _ _;simp(disch:=omega) only[go_sem,seval,kA];exact yT []
theorem YV(Γ:GG)(o:List Tx):∀(m:Nat) (x:Ex) (h:AH),SizeOf.sizeOf x<m->fj x->AC Γ 40 [aK (dB o x),aK x] h (.bool (jD o x))
 |0,_,_,hk,_=>absurd hk (Nat.not_lt_zero _)
 |m+1,.mk k n no s l,h,cj,hs=>by
  refine az.drop ?_;refine cS [.tmp 4] Tryz.func40 ?_;have hd:jD o (.mk k n no s l)=((no==mv o (.mk k n no s l))&&l.all (jD o)):=by rw[jD,de,DY];rfl
  rw[hd];simp only[RL,mu,List.map_map];generalize mv o (.mk k n no s l)=w at*;have nN:=hs.len;simp(disch:=omega) only[go_sem,seval];refine aJ.intro (fun h1=>?_) (fun h1=>?_)<;>simp(disch:=omega) only[go_sem,seval,List.length_map,fK]
  .subst h1;rw[beq_self_eq_true,Bool.true_and];refine d_ (β:=Unit) l [2,3,5] (fun ae _=>[(2,.ptr (some (h.length,0))),(3,.ptr (some (h.length+1,0))),(5,.int .i64 ae.length)]) (fun _=>h++[.row [.int .i64 k,.int .i64 n,.int .i64 w,.str ⟨⟨s⟩⟩,.sl (l.map (aK∘dB o)) .free] 26,.row [.int .i64 k,.int .i64 n,.int .i64 w,.str ⟨⟨s⟩⟩,.sl (l.map aK) .free] 26]) (fun ae _ _=>ae.all (jD o)=true) () ?_ rfl rfl ?_ ?_
   .simp(disch:=omega) only[go_sem,seval,List.length_nil]
   .rintro ae x r _ bT hp;have hlen:l.length=ae.length+1+r.length:=by rw[bT];simp;omega
    have e1:(l.map aK)[ae.length]? =some (aK x):=by rw[bT];exact fZ ..
    have e2:(l.map (aK∘dB o))[ae.length]? =some (aK (dB o x)):=by rw[bT];exact fZ ..
    have hx:x∈l:=by rw[bT];simp
    simp(disch:=omega) only[go_sem,seval,List.length_map];refine aJ.pos (by omega) ?_;simp(disch:=omega) only[go_sem,seval,e1,e2];refine bu (gY.intro (fun _=>YV Γ o m x _ (pX hx cj) (hs.mem x hx))) ?_;cases hl:jD o x<;>simp(disch:=omega) only[go_sem,seval]
    .grind
    .refine cd () (by grind) ?_ rfl;simp(disch:=omega) only[go_sem,seval,List.length_append]
   .rintro _ hp;rw[hp];simp(disch:=omega) only[go_sem,seval,List.length_map];exact yT []
  grind
theorem YW(Γ o x h)(hs:fj x):AC Γ 40 [aK (dB o x),aK x] h (.bool (jD o x)):=
 YV Γ o _ x h (Nat.lt_succ_self _) hs
theorem RO(o:List Tx):∀(i:Int) (a b:List Rl),h_ o i (a++b)=(h_ o i a&&h_ o (i+a.length) b)
 |i,[],b=>by simp[h_]
 |i,x::a,b=>by rw[List.cons_append,h_,h_,RO o (i+1) a b,List.length_cons];grind
theorem YX(Γ p h)(hs:lO p):AC Γ 13 [iI (sN p),iI p] h (.bool (h_ p.bf 0 p.rules&&jD p.bf p.change)):=by
 have c1:=fun h=>YW Γ p.bf p.change h hs.change;have hr:=hs.rules;refine az.drop ?_;refine cS [.tmp 4] Tryz.func13 ?_;rw[jj p,jj (sN p)];rw[dM p.change,dM (dB p.bf p.change)]at c1;simp only[sN];simp(disch:=omega) only[go_sem,seval,fK];refine az.cv (YU Γ p.bf _ hs.bf) ?_;simp(disch:=omega) only[go_sem,seval];refine az.cv (YU Γ p.kinds _ hs.kinds) ?_;simp(disch:=omega) only[go_sem,seval,List.length_map,yZ];refine bL (c1 _) ?_;cases hc:jD p.bf p.change<;>simp(disch:=omega) only[go_sem,seval];have YY:(h_ p.bf 0 p.rules&&true)=h_ p.bf 0 p.rules:=Bool.and_true _;refine d_ (β:=AH) p.rules [2,3,5] (fun ae _=>[(2,.ptr (some (h.length,0))),(3,.ptr (some (h.length+1,0))),(5,.int .i64 ae.length)]) (fun j=>h++ .row [.str ⟨⟨p.name⟩⟩,.sl (bq p.kinds) .free,.sl (bq p.bf) .free,.sl ((kB p.bf 0 p.rules).map bY) .free,.int .i64 (dB p.bf p.change).k,.int .i64 (dB p.bf p.change).n,.int .i64 (dB p.bf p.change).no,.str ⟨⟨(dB p.bf p.change).name⟩⟩,.sl ((dB p.bf p.change).l.map aK) .free,.int .i64 p.mode] 28:: .row [.str ⟨⟨p.name⟩⟩,.sl (bq p.kinds) .free,.sl (bq p.bf) .free,.sl ((p.rules).map bY) .free,.int .i64 (p.change).k,.int .i64 (p.change).n,.int .i64 (p.change).no,.str ⟨⟨(p.change).name⟩⟩,.sl ((p.change).l.map aK) .free,.int .i64 p.mode] 28::j) (fun ae _ _=>h_ p.bf 0 ae=true) [] ?_ rfl rfl ?_ ?_
 .simp(disch:=omega) only[go_sem,seval,List.length_nil]
 .rintro ae x r j bT hp;have hlen:p.rules.length=ae.length+1+r.length:=by rw[bT];simp;omega
  have e1:(p.rules.map bY)[ae.length]? =some (bY x):=by rw[bT];exact fZ ..
  have e2:((kB p.bf 0 p.rules).map bY)[ae.length]? =some (bY (uO p.bf ae.length x)):=by rw[bT,Nf,kB];have:=fZ bY (kB p.bf 0 ae) (kB p.bf (0+ae.length+1) r) (uO p.bf (0+ae.length) x);rw[yZ,Int.zero_add]at this;rw[Int.zero_add];exact this
  have hx:x∈p.rules:=by rw[bT];simp
  have fJ:h_ p.bf 0 p.rules=((x.lK==ae.length&&jD p.bf x.x)&&h_ p.bf (0+ae.length+1) r):=by rw[bT,RO,hp,Bool.true_and,h_,Int.zero_add]
  have jk:h_ p.bf 0 (ae++[x])=(x.lK==ae.length&&jD p.bf x.x):=by rw[RO,hp,Bool.true_and,h_,Int.zero_add,h_,Bool.and_true]
  have c5:=fun h=>YW Γ p.bf x.x h (hs.xD x hx);rw[dM x.x,dM (dB p.bf x.x)]at c5;rw[rO]at e1 e2;simp only[uO]at e2;simp(disch:=omega) only[go_sem,seval,List.length_map,yZ];refine aJ.pos (by omega) ?_;simp(disch:=omega) only[go_sem,seval,e1,e2,fK];refine aJ.intro (fun h1=>?_) (fun h1=>?_)<;>simp(disch:=omega) only[go_sem,seval];rotate_left
  .grind
  rw[<-h1,beq_self_eq_true,Bool.true_and]at fJ jk;refine bL (c5 _) ?_;cases hl:jD p.bf x.x<;>rw[hl]at fJ jk<;>simp(disch:=omega) only[go_sem,seval]
  .rw[fJ];rfl
  .refine cd (j++[.row [.str ⟨⟨x.kind⟩⟩,.int .i64 ae.length,.int .i64 x.g_,.int .i64 (dB p.bf x.x).k,.int .i64 (dB p.bf x.x).n,.int .i64 (dB p.bf x.x).no,.str ⟨⟨(dB p.bf x.x).name⟩⟩,.sl ((dB p.bf x.x).l.map aK) .free] 64,.row [.str ⟨⟨x.kind⟩⟩,.int .i64 x.lK,.int .i64 x.g_,.int .i64 (x.x).k,.int .i64 (x.x).n,.int .i64 (x.x).no,.str ⟨⟨(x.x).name⟩⟩,.sl ((x.x).l.map aK) .free] 64]) jk ?_ ?_
   .simp(disch:=omega) only[go_sem,seval,List.length_append]
   .simp
 .rintro j hp;simp(disch:=omega) only[go_sem,seval,List.length_map,yZ];refine fE [] ?_;rw[hp]
theorem YZ(Γ p h)(hs:lO p):AC Γ 6 [iI p] h (.int .i64 (dp p)):=by
 refine az.drop ?_;refine cS [.tmp 2] Tryz.func6 ?_;have c1:=fun h=>aj9 Γ p h hs;have c2:=fun h=>YX Γ p h hs;have hd:dp p=if fi p=0 then(if(h_ p.bf 0 p.rules&&jD p.bf p.change)=true then 0 else 200)else fi p:=rfl
 have Ng:RM p=if fi p=0 then(sN p,0)else(Jq,fi p):=rfl
 rw[jj p]at c1 c2|-;by_cases he:fi p=0
 .rw[if_pos he]at Ng hd;rw[Ng,D2,jj (sN p)]at c1;rw[jj (sN p)]at c2;refine aU ?_;refine bL (c1 _) ?_;refine az.cv (c2 _) ?_;rw[hd];generalize(h_ p.bf 0 p.rules&&jD p.bf p.change)=b;refine aU ?_;cases b<;>simp(disch:=omega) only[go_sem,seval]
 .rw[if_neg he]at Ng hd;rw[Ng,D2,jj Jq]at c1;refine aU ?_;refine bL (c1 _) ?_;refine bu (aJ.neg he) ?_;rw[hd]
def gI(hs:List (List Hd))(no:Int):List Hd:=hs.getD no.toNat []
def mz(who:List Int)(n:Int):Bool:=decide (n∈who)
def sT(who:List Int)(l:List Hd):Bool:=l.any fun x=>mz who x.eC
def sU(who:List Int):List Hd->Int
 |[]=>0
 |x::r=>(if mz who x.eC then x.weight else 0)+sU who r
def pt:List Bool->Int
 |[]=>0
 |b::r=>(if b then 1 else 0)+pt r
mutual
def mc(v:Int)(hs:List (List Hd))(who:List Int):Ex->Bool
 | .mk k n no _ l=>
  if k=1 then sT who (gI hs no)
  else if k=2 then decide (n<=sU who (gI hs no))
  else if k=3 then decide (n<=pt (JK v hs who l))
  else(JK v hs who l).getD (if v<=n then 0 else 1) false
def JK(v:Int)(hs:List (List Hd))(who:List Int):List Ex->List Bool
 |[]=>[]
 |x::r=>mc v hs who x::JK v hs who r
end
theorem alm(v hs who l):JK v hs who l=l.map (mc v hs who):=by
 induction l with
 |nil=>rfl
 |cons x r ih=>rw[JK,ih,List.map_cons]
theorem ZQ(v hs who x):mc v hs who x=
  if x.k=1 then sT who (gI hs x.no)
  else if x.k=2 then decide (x.n<=sU who (gI hs x.no))
  else if x.k=3 then decide (x.n<=pt (x.l.map (mc v hs who)))
  else(x.l.map (mc v hs who)).getD (if v<=x.n then 0 else 1) false:=by
 cases x with
 |mk k n no s l=>rw[mc,alm];rfl
theorem aln(a b):pt (a++b)=pt a+pt b:=by
 induction a with
 |nil=>simp[pt]
 |cons x r ih=>simp only[List.cons_append,pt,ih];omega
theorem alo(a):0<=pt a/\pt a<=a.length:=by
 induction a with
 |nil=>simp[pt]
 |cons x r ih=>rw[pt,List.length_cons];split<;>omega
def jE:Int->List Int->Bool
 |_,[]=>true
 |lo,n::r=>decide (lo<n/\n<64)&&jE n r
def iS(l:List Int):Bool:=jE (-1) l
def tV(l:List Hd):Bool:=l.all (fun x=>decide (1<=x.weight/\x.weight<=64))&&iS (l.map Hd.eC)
def j8(hs:List (List Hd))(n:Int):Bool:=hs.all tV&&decide ((hs.length:Int)=n)
def eZ(p:iq)(kind value:Int)(hs:List (List Hd))(who:List Int):Bool×Int:=
 if dp p≠0 then(false,dp p)
 else if kind<0\/(p.kinds.length:Int)<=kind\/value<0\/1099511627776<value then(false,1)
 else if j8 hs p.bf.length=false then(false,210)
 else if iS who=false then(false,1)
 else(((p.rules[kind.toNat]?).map fun r=>mc value hs who r.x).getD false,0)
def uV(p:iq)(hs:List (List Hd))(who:List Int):Bool×Int:=
 if dp p≠0 then(false,dp p)
 else if j8 hs p.bf.length=false then(false,210)
 else if iS who=false then(false,1)
 else(mc 0 hs who p.change,0)
theorem Gg(lo a n r)(h:jE lo a=true):jE lo (a++n::r)=(decide ((a.getLast?.getD lo)<n/\n<64)&&jE n r):=by
 induction a generalizing lo with
 |nil=>rfl
 |cons x t ih=>
  rw[jE,Bool.and_eq_true]at h;rw[List.cons_append,jE,h.1,Bool.true_and,ih x h.2];grind
theorem SG{lo a}(h:jE lo a=true):∀n∈a,lo<n/\n<64:=by
 induction a generalizing lo with
 |nil=>simp
 |cons x t ih=>
  rw[jE,Bool.and_eq_true,decide_eq_true_eq]at h;grind
theorem alp{lo a}(h:jE lo a=true):a.Pairwise (·<·):=by
 induction a generalizing lo with
 |nil=>exact .nil
 |cons x t ih=>
  rw[jE,Bool.and_eq_true,decide_eq_true_eq]at h;exact .cons (fun n hn=>(SG h.2 n hn).1) (ih h.2)
theorem alq{lo a}(h1:a.Pairwise (·<·))(h2:∀n∈a,lo<n/\n<64):jE lo a=true:=by
 induction a generalizing lo with
 |nil=>rfl
 |cons x t ih=>
  rw[List.pairwise_cons]at h1;rw[jE,Bool.and_eq_true,decide_eq_true_eq];simp_all
theorem SH(a):iS a=true<->a.Pairwise (·<·)/\∀n∈a,0<=n/\n<64:=
 ⟨fun h=>⟨alp h,fun n hn=>by have:=SG h n hn;omega⟩,fun h=>alq h.1 fun n hn=>by have:=h.2 n hn;omega⟩
theorem alr{lo a}(h:jE lo a=true)(vJ:-1<=lo)(ZR:lo<64):lo+a.length<64:=by
 induction a generalizing lo with
 |nil=>simpa using ZR
 |cons x t ih=>
  rw[jE,Bool.and_eq_true,decide_eq_true_eq]at h;grind
theorem JL{a}(h:iS a=true):a.length<=64:=by have:=alr h (by omega) (by omega);omega
def okF(o:List Tx)(u:Bool)(x:Ex):Bool:=iC u x&&(kh o x&&(x.no==mv o x))
def rT(o:List Tx)(u:Bool)(x:Ex):Bool:=de (okF o u) x
theorem ZS(o u x):rT o u x=(de (iC u) x&&(de (kh o) x&&jD o x)):=by rw[rT,jD,<-RH,<-RH];rfl
theorem Gi{f x}(h:de f x=true):f x=true:=by cases x;rw[de,Bool.and_eq_true]at h;exact h.1
theorem Gj{f x y}(h:de f x=true)(hy:y∈x.l):de f y=true:=by cases x;rw[de,Bool.and_eq_true,DY,List.all_eq_true]at h;exact h.2 y hy
theorem JM{o u x}(h:rT o u x=true):okF o u x=true:=Gi h
theorem JN{o u x y}(h:rT o u x=true)(hy:y∈x.l):rT o u y=true:=Gj h hy
theorem ZT{o u x}(h:okF o u x=true)(hk:x.k=1\/x.k=2):0<=x.no/\x.no<o.length:=by
 rw[okF,Bool.and_eq_true,Bool.and_eq_true]at h;have hn:lg x=true:=by rw[lg];rcases hk with h|h<;>simp[h]
 have h1:=h.2.1;have h2:=beq_iff_eq.1 h.2.2;rw[kh,hn]at h1;rw[mv,if_pos hn]at h2;have h3:0<=iK o x.name:=by simpa using h1
 have:=aj1 o x.name;omega
theorem NF{o u x}(h:okF o u x=true):1<=x.k/\x.k<=4:=by rw[okF,Bool.and_eq_true,iC,Bool.and_eq_true]at h;have h1:=h.1.1;rw[iY]at h1;grind
theorem NG{o u x}(h:okF o u x=true):iY x=true:=by rw[okF,Bool.and_eq_true,iC,Bool.and_eq_true]at h;exact h.1.1
theorem SI{o u x}(h:okF o u x=true)(hk:x.k=4):x.l.length=2/\0<=x.n/\x.n<=1099511627776:=by have:=NG h;rw[iY,if_neg (by omega),if_neg (by omega),if_neg (by omega),if_pos hk,decide_eq_true_eq]at this;omega
theorem NH{o u x}(h:okF o u x=true)(hk:x.k=3):1<=x.l.length/\x.l.length<=16/\1<=x.n/\x.n<=x.l.length:=by have:=NG h;rw[iY,if_neg (by omega),if_neg (by omega),if_pos hk,decide_eq_true_eq]at this;omega
theorem ZU{o u x}(h:okF o u x=true)(hk:x.k=2):1<=x.n/\x.n<=4096/\x.l.length=0:=by have:=NG h;rw[iY,if_neg (by omega),if_pos hk,decide_eq_true_eq]at this;omega
theorem xN{p}(h:dp p=0):nM p=true/\ot p=true/\ou p=true/\h_ p.bf 0 p.rules=true/\jD p.bf p.change=true:=by
 have he:fi p=0:=by
  by_cases he:fi p=0
  .exact he
  .rw[dp,if_neg he]at h;exact absurd h he
 rw[dp,if_pos he]at h;have h4:(h_ p.bf 0 p.rules&&jD p.bf p.change)=true:=by
  cases hb:(h_ p.bf 0 p.rules&&jD p.bf p.change)
  .rw[hb]at h;simp at h
  .rfl
 rw[Bool.and_eq_true]at h4;rw[fi]at he;grind
theorem als{o l i}(h:h_ o i l=true):∀r∈l,jD o r.x=true:=by
 induction l generalizing i with
 |nil=>simp
 |cons x t ih=>
  rw[h_,Bool.and_eq_true,Bool.and_eq_true]at h;grind
theorem JO{p}(h:dp p=0){r}(hr:r∈p.rules):rT p.bf true r.x=true/\lN r.x=false:=by obtain⟨h1,h2,h3,h4,h5⟩:=xN h;have hx:r.x∈exprs p:=List.mem_append_left _ (List.mem_map.2 ⟨r,hr,rfl⟩);rw[nM,Bool.and_eq_true,List.all_eq_true]at h1;rw[ot,Bool.and_eq_true,List.all_eq_true]at h2;rw[ou,Bool.and_eq_true,Bool.and_eq_true,List.all_eq_true]at h3;refine⟨?_,by simpa using h1.2 _ hx⟩;rw[ZS,h3.1.2 r hr,h2.2 _ hx,als h4 r hr];rfl
theorem JP{p}(h:dp p=0):rT p.bf false p.change=true/\lN p.change=false:=by obtain⟨h1,h2,h3,h4,h5⟩:=xN h;have hx:p.change∈exprs p:=List.mem_append_right _ (by simp);rw[nM,Bool.and_eq_true,List.all_eq_true]at h1;rw[ot,Bool.and_eq_true,List.all_eq_true]at h2;rw[ou,Bool.and_eq_true]at h3;refine⟨?_,by simpa using h1.2 _ hx⟩;rw[ZS,h3.2,h2.2 _ hx,h5];rfl
theorem NI{p}(h:dp p=0):p.rules.length=p.kinds.length/\p.bf.length<=32/\p.kinds.length<=16/\0<p.kinds.length/\1<=p.mode/\p.mode<=4:=by obtain⟨h1,h2,h3,h4,h5⟩:=xN h;rw[nM,Bool.and_eq_true,decide_eq_true_eq]at h1;rw[ou,Bool.and_eq_true,Bool.and_eq_true,Bool.and_eq_true,decide_eq_true_eq]at h3;omega
section
variable {κ β:Type} [DecidableEq κ]
def zx(k:κ)(y:β):List (κ×β)->List (κ×β)
 |[]=>[(k,y)]
 |e::r=>if e.1=k then(k,y)::r else e::zx k y r
def CQ(k:κ):List (κ×β)->Option β
 |[]=>none
 |e::r=>if e.1=k then some e.2 else CQ k r
def qW(kv:κ->AV)(ev:β->AV):Nat->List (κ×β)->List (Nat×AV×AV)
 |_,[]=>[]
 |i,e::r=>(i,kv e.1,ev e.2)::qW kv ev (i+1) r
def s_(k:κ):List (κ×β)->Option Nat
 |[]=>none
 |e::r=>if e.1=k then some 0 else(s_ k r).map (·+1)
variable (kv:κ->AV) (ev:β->AV)
omit [DecidableEq κ]in
theorem ET:∀(m:List (κ×β)) (i j:Nat),(qW kv ev i m)[j]? =(m[j]?).map fun e=>(i+j,kv e.1,ev e.2)
 |[],i,j=>by simp[qW]
 |e::r,i,0=>by simp[qW]
 |e::r,i,j+1=>by rw[qW,List.getElem?_cons_succ,List.getElem?_cons_succ,ET r (i+1) j];grind
omit [DecidableEq κ]in
theorem adh(m i):(qW kv ev i m).length=m.length:=by
 induction m generalizing i with
 |nil=>rfl
 |cons e r ih=>simp[qW,ih]
theorem UF(k:κ):∀m:List (κ×β),(s_ k m=none/\CQ k m=none)\/∃j y,s_ k m=some j/\m[j]? =some (k,y)/\CQ k m=some y
 |[]=> .inl ⟨rfl,rfl⟩
 |e::r=>by
  by_cases h:e.1=k
  .exact .inr ⟨0,e.2,by simp[s_,h],by simp[<-h],by simp[CQ,h]⟩
  .rcases UF k r with⟨h1,h2⟩|⟨j,y,h1,h2,h3⟩
   .exact .inl ⟨by simp[s_,h,h1],by simp[CQ,h,h2]⟩
   .exact .inr ⟨j+1,y,by simp[s_,h,h1],by simpa using h2,by simp[CQ,h,h3]⟩
def mLk(ok:Bool)(z:AV):Option β->AV
 |some e=>if ok then .tuple [ev e,.bool true]else ev e
 |none=>if ok then .tuple [z,.bool false]else z
theorem aqa{F}(ok z k m)(hF:F=some (s_ k m))(K):tA ok z F (qW kv ev 0 m) K=K (mLk ev ok z (CQ k m)):=by
 rw[hF];rcases UF k m with⟨h1,h2⟩|⟨j,y,h1,h2,h3⟩
 .rw[h1,h2];rfl
 .rw[h1,h3];have hg:=ET kv ev m 0 j;rw[h2]at hg;simp[tA,hg,mLk]
theorem adj(k:κ)(y:β):∀m:List (κ×β),(s_ k m=none/\zx k y m=m++[(k,y)])\/∃j,s_ k m=some j/\zx k y m=m.set j (k,y)
 |[]=> .inl ⟨rfl,rfl⟩
 |e::r=>by
  by_cases h:e.1=k
  .exact .inr ⟨0,by simp[s_,h],by simp[zx,h]⟩
  .rcases adj k y r with⟨h1,h2⟩|⟨j,h1,h2⟩
   .exact .inl ⟨by simp[s_,h,h1],by simp[zx,h,h2]⟩
   .exact .inr ⟨j+1,by simp[s_,h,h1],by simp[zx,h,h2]⟩
theorem aqb{F}(k y m)(hF:F=some (s_ k m)):F.bind (sD (qW kv ev 0 m) m.length (kv k) (ev y))=some (.map (qW kv ev 0 (zx k y m)) (zx k y m).length):=by
 rw[hF];rcases adj k y m with⟨h1,h2⟩|⟨j,h1,h2⟩
 .rw[h1,h2];simp only[Option.bind_some,sD];congr 2
  .apply List.ext_getElem?;intro i;rw[ET,List.getElem?_append,List.getElem?_append,adh];split
   .rw[ET]
   grind
  .simp
 .rw[h1,h2];rcases UF k m with⟨g1,_⟩|⟨j',y',g1,g2,_⟩
  .rw[g1]at h1;cases h1
  .rw[g1]at h1;cases h1;simp only[Option.bind_some,sD,ET,g2,Option.map_some,List.length_set];congr 2;apply List.ext_getElem?;intro i;rw[ET,List.getElem?_set,List.getElem?_set,ET,adh];grind
end
theorem UG{β:Type}(ev:β->AV)(p:Int):∀(m:List (Int×β)) (i:Nat),kr (.int .i64 p) (qW (fun n=> .int .i64 n) ev i m)=some (s_ p m)
 |[],_=>rfl
 |e::r,i=>by rw[qW,kr,UG ev p r (i+1),s_];grind
end Go.Proofs.YtmfjlankeocaoaaGreatDoor
namespace Go.Proofs.YtmfjlankeocaoaaGreatDoor
open Go Go.Proofs Go.aS Go.RowKit
theorem aj_(s c w):
  Calls Tryz.prog 210 #[.string s,.int .u8 c] w fun e w'=>e= .returned (.int .i64 (Lib.indexByte s.data.toList c.toNat.toUInt8))/\w'=w:=by
 go_enter Tryz.func210,Tryz.ntmps210
 go_wp2
 rw[run_callFunc_extern Tryz.func260 (by kernel_rfl) (by kernel_rfl) (by kernel_rfl) (e:=Extern.BytealgIndexByte.indexByte) (by kernel_rfl),Lib.run_indexByteString];simp only[Result.andThen];rw[Oper.upon_value]
 go_wp2
 go_ret
 exact⟨rfl,rfl⟩
theorem aka(Γ s c h):AC Γ 210 [.str s,.int .u8 c] h (.int .i64 (Lib.indexByte s.data.toList c.toNat.toUInt8)):=by
 refine⟨fun vs w=>xb Tryz.func210 rfl rfl vs w,fun G w vs hI hv=>?_⟩;have HV:vs= #[.string s,.int .u8 c]:=by
  obtain⟨hl,hv⟩:=hv;have h0:=hv 0 _ rfl;have h1:=hv 1 _ rfl;obtain⟨l⟩:=vs;simp only[List.length_cons,List.length_nil,List.size_toArray]at hl;match l,hl with
  |[a,b],_=>
   have h0:VR G (.str s) a:=h0;have h1:VR G (.int .u8 c) b:=h1;cases h0;cases h1;rfl
 subst HV;refine Calls.mono (aj_ s c w) fun e w' he=>?_;obtain⟨rfl,rfl⟩:=he;exact⟨_,G,_,h,rfl,Gh.le.refl G,hI,.int _ _,rfl,rfl⟩
theorem akb(Γ s c h):AC Γ 160 [.str s,.int .u8 c] h (.int .i64 (Lib.indexByte s.data.toList c.toNat.toUInt8)):=by refine az.drop ?_;refine cY [.tmp 4] Tryz.func160 ?_;exact qx (aka Γ s c _)
end Go.Proofs.YtmfjlankeocaoaaGreatDoor
namespace Go.Proofs.YtmfjlankeocaoaaGreatDoor
open Go Go.Proofs Go.aS
def F0(b:UInt8):Bool:=decide (b.toNat=32\/b.toNat=9\/b.toNat=10\/b.toNat=13)
def Jr:ByteArray:=⟨#[123,125,40,41,59,44,61,58,46,60,62,33,43,45,42,47]⟩
def kO(b:UInt8):Int:=
 if ns b=true then 2 else if oP b=true then 3 else if b.toNat=95 then 5 else if F0 b=true then 1 else if 0<=Lib.indexByte Jr.data.toList b.toNat.toUInt8 then 4 else 0
theorem D3(Γ b h):AC Γ 95 [.int .u8 b.toNat] h (.int .i64 (kO b)):=by
 refine az.drop ?_;refine cS [.tmp 2] Tryz.func95 ?_;have hb:=b.toNat_lt;have hd:kO b=if ns b=true then 2 else if oP b=true then 3 else if b.toNat=95 then 5 else if F0 b=true then 1 else if 0<=Lib.indexByte Jr.data.toList b.toNat.toUInt8 then 4 else 0:=rfl
 have hL:ns b=decide ((97<=b.toNat/\b.toNat<=122)\/(65<=b.toNat/\b.toNat<=90)):=rfl;have hF:oP b=decide (48<=b.toNat/\b.toNat<=57):=rfl;have hB:F0 b=decide (b.toNat=32\/b.toNat=9\/b.toNat=10\/b.toNat=13):=rfl;have tail:∀(h1:ns b=false) (h2:oP b=false) (h3:b.toNat≠95),kO b=if F0 b=true then 1 else if 0<=Lib.indexByte Jr.data.toList b.toNat.toUInt8 then 4 else 0:=fun h1 h2 h3=>by rw[hd,h1,h2];simp[h3]
 have r2:ns b=true->kO b=2:=fun h1=>by rw[hd,h1];rfl
 have r3:ns b=false->oP b=true->kO b=3:=fun h1 h2=>by rw[hd,h1,h2];rfl
 have r5:ns b=false->oP b=false->b.toNat=95->kO b=5:=fun h1 h2 h3=>by rw[hd,h1,h2,h3];rfl
 have r1:ns b=false->oP b=false->b.toNat≠95->F0 b=true->kO b=1:=fun h1 h2 h3 h4=>by rw[tail h1 h2 h3,h4];rfl
 have r0:ns b=false->oP b=false->b.toNat≠95->F0 b=false->kO b=if 0<=Lib.indexByte Jr.data.toList b.toNat.toUInt8 then 4 else 0:=fun h1 h2 h3 h4=>by rw[tail h1 h2 h3,h4];rfl
 rw[hL]at r0 r1 r2 r3 r5;rw[hF]at r0 r1 r3 r5;rw[hB]at r0 r1;refine aU ?_;repeat' (first|refine aJ.pos (by omega) ?_|refine aJ.neg (by omega) ?_|refine aJ.intro (fun hc=>?_) (fun hc=>?_))<;>try simp(disch:=omega) only[go_sem,seval]
 all_goals first
  |(rw[r2 (decide_eq_true (by omega))];done)
  |(rw[r3 (decide_eq_false (by omega)) (decide_eq_true (by omega))];done)
  |(rw[r5 (decide_eq_false (by omega)) (decide_eq_false (by omega)) (by omega)];done)
  |(rw[r1 (decide_eq_false (by omega)) (decide_eq_false (by omega)) (by omega) (decide_eq_true (by omega))];done)
  |skip
 all_goals
  have e0:=r0 (decide_eq_false (by omega)) (decide_eq_false (by omega)) (by omega) (decide_eq_false (by omega));refine az.cv (akb Γ Jr b.toNat _) ?_;simp(disch:=omega) only[go_sem,seval];refine aJ.intro (fun hc=>?_) (fun hc=>?_)<;>simp(disch:=omega) only[go_sem,seval]
  .rw[e0,if_pos hc]
  .rw[e0,if_neg hc]
theorem RP(b):(kO b=2)<->ns b=true:=by unfold kO;grind
theorem Y0(b):(kO b=2\/kO b=3\/kO b=5)<->tR b=true:=by unfold kO tR;grind
theorem Y1(Γ l h)(hl:l.length<=9223372036854775807):AC Γ 142 [.str ⟨⟨l⟩⟩] h (.bool (l8 l)):=by
 refine az.drop ?_;refine cS [.tmp 2] Tryz.func142 ?_;simp(disch:=omega) only[go_sem,seval,fK];cases l with
 |nil=>
  simp(disch:=omega) only[go_sem,seval,nil_eq,List.isEmpty_nil];rfl
 |cons b r=>
 simp(disch:=omega) only[go_sem,seval,oQ,nil_eq,List.isEmpty_cons];simp only[List.length_cons]at hl;refine aJ.intro (fun h2=>?_) (fun h2=>?_)<;>simp(disch:=omega) only[go_sem,seval]
 .rw[l8,decide_eq_false (by omega)];rfl
 have hn:l8 (b::r)=(ns b&&(b::r).all tR):=by rw[l8,decide_eq_true (by omega),Bool.true_and]
 rw[hn];refine⟨b,by rw[Az];rfl,?_⟩;refine bL (D3 Γ b _) ?_;refine aJ.intro (fun h3=>?_) (fun h3=>?_)<;>simp(disch:=omega) only[go_sem,seval,oQ];rotate_left
 .cases hb:ns b
  .rfl
  .exact absurd ((RP b).2 hb) h3
 rw[(RP b).1 h3,Bool.true_and];refine d_ (β:=Unit) (b::r) [0,19,20] (fun ae _=>[(0,.str ⟨⟨b::r⟩⟩),(19,.int .i64 (r.length+1)),(20,.int .i64 ae.length)]) (fun _=>h) (fun ae rest _=>ae.all tR=true) () ?_ rfl rfl ?_ ?_
 .simp(disch:=omega) only[go_sem,seval,List.length_nil]
 .rintro ae x rest _ hd hp;have hlen:r.length+1=ae.length+1+rest.length:=by rw[<-List.length_cons (a:=b),hd];simp;omega
  have e1:(b::r)[ae.length]? =some x:=by rw[hd];simp
  simp(disch:=omega) only[go_sem,seval];refine bu (aJ.pos (by omega)) ?_;refine⟨x,by rw[Az];exact e1,?_⟩;refine bL (D3 Γ x _) ?_;have hx:=Y0 x;have fin:tR x=false->(tR b&&r.all tR)=false:=fun e=>by grind
  repeat' (first|refine aJ.intro (fun hc=>?_) (fun hc=>?_))<;>try simp(disch:=omega) only[go_sem,seval]
  all_goals first
   |(have uJ:tR x=true:=hx.1 (by omega)
     refine cd () (by grind) ?_ rfl;simp(disch:=omega) only[go_sem,seval,List.length_append])
   |grind
 .rintro _ hp;simp(disch:=omega) only[go_sem,seval];refine fE [0] ?_;rw[List.all_cons]at hp;rw[hp]
theorem Y2(Γ l h)(hl:l.length<=9223372036854775807):AC Γ 99 [.str ⟨⟨l⟩⟩] h (.bool (rM l)):=by
 refine az.drop ?_;have hd:Ch l=FY.any fun w=>l==w:=rfl;have hf:rM l=(l8 l&&!Ch l):=rfl;simp only[FY,List.any_cons,List.any_nil]at hd;refine cS [.tmp 2] Tryz.func99 ?_;simp(disch:=omega) only[go_sem,seval,fK];cases h0:(l==[112,111,108,105,99,121])<;>rw[h0]at hd<;>simp(disch:=omega) only[go_sem,seval,fK];rotate_left
 .rw[hf,hd];simp
 cases h1:(l==[109,111,100,101])<;>rw[h1]at hd<;>simp(disch:=omega) only[go_sem,seval,fK];rotate_left
 .rw[hf,hd];simp
 cases h2:(l==[111,108,100])<;>rw[h2]at hd<;>simp(disch:=omega) only[go_sem,seval,fK];rotate_left
 .rw[hf,hd];simp
 cases h3:(l==[110,101,119])<;>rw[h3]at hd<;>simp(disch:=omega) only[go_sem,seval,fK];rotate_left
 .rw[hf,hd];simp
 cases h4:(l==[98,111,116,104])<;>rw[h4]at hd<;>simp(disch:=omega) only[go_sem,seval,fK];rotate_left
 .rw[hf,hd];simp
 cases h5:(l==[101,105,116,104,101,114])<;>rw[h5]at hd<;>simp(disch:=omega) only[go_sem,seval,fK];rotate_left
 .rw[hf,hd];simp
 cases h6:(l==[111,102,102,105,99,101])<;>rw[h6]at hd<;>simp(disch:=omega) only[go_sem,seval,fK];rotate_left
 .rw[hf,hd];simp
 cases h7:(l==[107,105,110,100])<;>rw[h7]at hd<;>simp(disch:=omega) only[go_sem,seval,fK];rotate_left
 .rw[hf,hd];simp
 cases h8:(l==[114,117,108,101])<;>rw[h8]at hd<;>simp(disch:=omega) only[go_sem,seval,fK];rotate_left
 .rw[hf,hd];simp
 cases h9:(l==[116,104,105,110,107])<;>rw[h9]at hd<;>simp(disch:=omega) only[go_sem,seval,fK];rotate_left
 .rw[hf,hd];simp
 cases sr:(l==[99,104,97,110,103,101])<;>rw[sr]at hd<;>simp(disch:=omega) only[go_sem,seval,fK];rotate_left
 .rw[hf,hd];simp
 cases DW:(l==[115,111,109,101])<;>rw[DW]at hd<;>simp(disch:=omega) only[go_sem,seval,fK];rotate_left
 .rw[hf,hd];simp
 cases Ci:(l==[119,101,105,103,104,116])<;>rw[Ci]at hd<;>simp(disch:=omega) only[go_sem,seval,fK];rotate_left
 .rw[hf,hd];simp
 cases qy:(l==[111,102])<;>rw[qy]at hd<;>simp(disch:=omega) only[go_sem,seval,fK];rotate_left
 .rw[hf,hd];simp
 cases Cj:(l==[117,112,116,111])<;>rw[Cj]at hd<;>simp(disch:=omega) only[go_sem,seval,fK];rotate_left
 .rw[hf,hd];simp
 cases yX:(l==[101,108,115,101])<;>rw[yX]at hd<;>simp(disch:=omega) only[go_sem,seval];rotate_left
 .rw[hf,hd];simp
 refine bL (Y1 Γ l _ hl) ?_;rw[hf,hd];simp
theorem Zr(a b:Tx):(a==b)=(b==a):=by grind
theorem Nu(Γ)(l:List Tx)(s:Tx)(h)(hl:l.length<=9223372036854775807):AC Γ 70 [.sl (bq l) .free,.str ⟨⟨s⟩⟩] h (.int .i64 (iK l s)):=by
 refine az.drop ?_;refine cS [.tmp 4] Tryz.func70 ?_;simp(disch:=omega) only[go_sem,seval,kA];refine d_ (β:=Unit) l [0,1,7,8] (fun ae _=>[(0,.sl (bq l) .free),(1,.str ⟨⟨s⟩⟩),(7,.int .i64 l.length),(8,.int .i64 ae.length)]) (fun _=>h) (fun ae _ _=>∀y∈ae,(y==s)=false) () ?_ rfl (by simp) ?_ ?_
 .simp(disch:=omega) only[go_sem,seval,List.length_nil]
 .rintro ae x r _ hd hp;have hlen:l.length=ae.length+1+r.length:=by rw[hd];simp;omega
  have e1:(bq l)[ae.length]? =some (.str ⟨⟨x⟩⟩):=by rw[hd];exact yY ae r x
  simp(disch:=omega) only[go_sem,seval];refine aJ.pos (by omega) ?_;simp(disch:=omega) only[go_sem,seval,e1,fK,Zr s x];cases hx:(x==s)<;>simp(disch:=omega) only[go_sem,seval]
  .refine cd () ?_ ?_ rfl
   .grind
   .simp(disch:=omega) only[go_sem,seval,List.length_append]
  .rw[hd,YJ hp hx]
 .rintro _ hp;simp(disch:=omega) only[go_sem,seval];refine fE [] ?_;rw[YI hp]
theorem R9(Γ)(l:List Tx)(s:Tx)(h)(hl:l.length<=9223372036854775807):AC Γ 101 [.sl (bq l) .free,.str ⟨⟨s⟩⟩] h (.bool (decide (0<=iK l s))):=by refine az.drop ?_;refine cY [.tmp 4] Tryz.func101 ?_;exact qx (Nu Γ l s _ hl)
theorem Zs(Γ)(l:List Tx)(h)(hl:l.length<=9223372036854775807)(ht:∀s∈l,s.length<=9223372036854775807):AC Γ 100 [.sl (bq l) .free,.func 99 [] []] h (.bool (uN l)):=by
 refine az.drop ?_;refine cS [.tmp 4] Tryz.func100 ?_;simp(disch:=omega) only[go_sem,seval,kA];refine d_ (β:=Unit) l [0,1,7,8,9] (fun ae _=>[(0,.sl (bq l) .free),(1,.func 99 [] []),(7,.sl (bq l) .free),(8,.int .i64 l.length),(9,.int .i64 ae.length)]) (fun _=>h) (fun ae r _=>uN l=Cl ae r) () ?_ rfl rfl ?_ ?_
 .simp(disch:=omega) only[go_sem,seval,List.length_nil]
 .rintro ae x r _ hd hp;have hlen:l.length=ae.length+1+r.length:=by rw[hd];simp;omega
  have e1:(bq l)[ae.length]? =some (.str ⟨⟨x⟩⟩):=by rw[hd];exact yY ae r x
  have hx:x∈l:=by rw[hd];simp
  rw[hp,Cl];simp(disch:=omega) only[go_sem,seval];refine aJ.pos (by omega) ?_;simp(disch:=omega) only[go_sem,seval,e1,List.nil_append,List.cons_append];refine bL (Y2 Γ x _ (ht x hx)) ?_;cases hf:rM x<;>simp(disch:=omega) only[go_sem,seval];refine bL (Nu Γ l x _ hl) ?_;refine aJ.intro (fun hc=>?_) (fun hc=>?_)<;>simp(disch:=omega) only[go_sem,seval]
  .refine cd () ?_ ?_ rfl
   .rw[<-hd,hc];simp
   .simp(disch:=omega) only[go_sem,seval,List.length_append]
  grind
 .rintro _ hp;simp(disch:=omega) only[go_sem,seval];refine fE [] ?_;rw[hp];rfl
theorem R_(Γ x h):AC Γ 69 [aK x] h (.bool (lg x)):=by
 refine az.drop ?_;refine cS [.tmp 2] Tryz.func69 ?_;rw[dM];refine aU ?_;refine aJ.intro (fun hc=>?_) (fun hc=>?_)<;>simp(disch:=omega) only[go_sem,seval]
 .simp[lg,hc]
 .have hd:lg x=(x.k==1||x.k==2):=rfl;grind
theorem D_(Γ n a b h):AC Γ 102 [.int .i64 n,.int .i64 a,.int .i64 b] h (.bool (decide (a<=n/\n<=b))):=by
 refine az.drop ?_;refine cY [.tmp 6] Tryz.func102 ?_;refine aJ.intro (fun hc=>?_) (fun hc=>?_)<;>simp(disch:=omega) only[go_sem,seval]
 .grind
 .rw[decide_eq_false (by omega)]
def rR(e:Int):AV:= .iface 156 (.agg [.int .i64 e])
def ma(e:Int):Value:= .iface 156 (.agg #[.int .i64 e])
theorem y4(e):kD (rR e)=some (ma e):=by rw[rR,kD,kD,rP,kD,rP];rfl
theorem akI(Γ e h):AC Γ 97 [.bool true,.int .i64 e] h (.tuple []):=by refine az.drop ?_;exact xB [] Tryz.func97
theorem akJ(Γ B e h)(hB:B<=h.length):dq Tryz.prog Γ B 97 [.bool false,.int .i64 e] h (fun _ _=>False) fun u=>u=ma e:=by refine bu (AF (rs:=[]) 97 Tryz.func97 rfl rfl rfl rfl (by kernel_rfl)) ?_;have:=xI.here (B:=B) (h:=h) (X:=fun u=>u=ma e) (u:=ma e) hB rfl [];rw[List.append_nil]at this;exact this
def wb(h:AH)(p:iq):AH:=h++[.row [.str ⟨⟨p.name⟩⟩,.sl (bq p.kinds) .free,.sl (bq p.bf) .free,.sl (p.rules.map bY) .free,.int .i64 p.change.k,.int .i64 p.change.n,.int .i64 p.change.no,.str ⟨⟨p.change.name⟩⟩,.sl (p.change.l.map aK) .free,.int .i64 p.mode] 28]
theorem Sd(Γ p h)(hs:lO p)(hl:p.rules.length<=1000000):AC Γ 98 [iI p] h (.sl ((exprs p).map aK) .free):=by
 refine az.ji ?_;refine cS [.tmp 2] Tryz.func98 ?_;rw[jj];have hr:=hs.rules;simp(disch:=omega) only[go_sem,seval,List.length_map];refine d_ (β:=List Ex×aS.Own×AH) p.rules [1,2,6,7,8] (fun ae b=>[(1,.ptr (some (h.length,0))),(2,.sl (b.1.map aK) b.2.1),(6,.sl (p.rules.map bY) .free),(7,.int .i64 p.rules.length),(8,.int .i64 ae.length)]) (fun b=>wb h p++b.2.2) (fun ae _ b=>b.1=ae.map Rl.x/\fX (wb h p) b.2.2 ae.length b.2.1) ([],.full,[]) ?_ (by simp[wb]) ⟨rfl,trivial⟩ ?_ ?_
 .simp(disch:=omega) only[go_sem,seval,List.length_nil]
 .rintro ae x r ⟨xs,own,X⟩ bT ⟨iX,cP⟩;simp only at cP iX|-;have hlen:p.rules.length=ae.length+1+r.length:=by rw[bT];simp;omega
  have e1:(p.rules.map bY)[ae.length]? =some (bY x):=by rw[bT];exact fZ ..
  have ik:xs.length=ae.length:=by rw[iX,List.length_map]
  have Ea:=dM x.x;rw[rO]at e1;simp(disch:=omega) only[go_sem,seval,wb];refine aJ.pos (by omega) ?_;simp(disch:=omega) only[go_sem,seval,e1];rw[<-Ea];have eh:∀X,h++ .row [.str ⟨⟨p.name⟩⟩,.sl (bq p.kinds) .free,.sl (bq p.bf) .free,.sl (p.rules.map bY) .free,.int .i64 p.change.k,.int .i64 p.change.n,.int .i64 p.change.no,.str ⟨⟨p.change.name⟩⟩,.sl (p.change.l.map aK) .free,.int .i64 p.mode] 28::X=wb h p++X:=fun X=>by simp[wb]
  rw[eh];refine pV (by rw[List.length_map,ik];exact cP.app _) (pY _) (pY [x.x]) (by simp;omega) (by simp;omega) fun j' eY iG hg=>?_;refine aU ?_;refine cd (xs++[x.x],eY,j') ⟨?_,?_⟩ ?_ ?_
  .rw[iX];simp
  .simpa [wb,ik]using iG
  .simp(disch:=omega) only[go_sem,seval,List.length_append,List.map_append]
  .simp[wb]
 .rintro⟨xs,own,X⟩ ⟨iX,cP⟩;simp only at cP iX|-;simp(disch:=omega) only[go_sem,seval,wb];refine jL [1,2] ?_;simp(disch:=omega) only[go_sem,seval];have Ea:=dM p.change;have ik:xs.length=p.rules.length:=by rw[iX,List.length_map]
  rw[<-Ea];have eh:∀X,h++ .row [.str ⟨⟨p.name⟩⟩,.sl (bq p.kinds) .free,.sl (bq p.bf) .free,.sl (p.rules.map bY) .free,.int .i64 p.change.k,.int .i64 p.change.n,.int .i64 p.change.no,.str ⟨⟨p.change.name⟩⟩,.sl (p.change.l.map aK) .free,.int .i64 p.mode] 28::X=wb h p++X:=fun X=>by simp[wb]
  rw[eh];refine pV (by grind) (pY _) (pY [p.change]) (by simp;omega) (by simp;omega) fun j' eY iG hg=>?_;rw[wb];have er:xs.map aK++[aK p.change]=(exprs p).map aK:=by rw[exprs,iX];simp
  refine aU ?_;rw[er,xC];exact⟨uM _ _▸trivial,rfl⟩
def y5(y:Ex×Nat):AV:= .agg (l_ y.1++[.int .i64 y.2])
def rS(x:Ex)(d:Nat):AV:= .func 133 [] [.bS (l_ x),.bS [.int .i64 d]]
theorem JD(Γ x)(d:Nat)(h):AC Γ 68 [aK x,.int .i64 d] h (rS x d):=by
 rw[rS,tT];refine az.ji ?_;refine az.freeze ?_;refine az.freeze ?_;rw[l_];refine cY [.tmp 4] Tryz.func68 ?_;have e1:∀a b:cO,(h++[a,b])[h.length]? =some a:=fun a b=>by simp
 have e2:∀a b:cO,((h++[a,b]).set h.length .frozen)[h.length+1]? =some b:=fun a b=>by grind
 have e4:∀a b:cO,∃l,((h++[a,b]).set h.length .frozen).set (h.length+1) .frozen=h++l:=fun a b=>⟨[.frozen,.frozen],by simp_all⟩;refine⟨h.length,_,_,_,e1 _ _,jM.set (e1 _ _),h.length+1,_,_,_,e2 _ _,jM.set (e2 _ _),e4 _ _,?_,?_⟩
 .simp only[dd,fB,if_true,List.drop_zero];rw[if_neg (by omega)];simp only[dd,if_true,List.drop_zero,loose];exact .func (bB.nil _) (bB.cons (.bS (bB.cons (.int _ _) (bB.cons (.int _ _) (bB.cons (.int _ _) (bB.cons (.str _) (bB.cons (of_eq_true (uM _ _)) (bB.nil _))))))) (bB.cons (.bS (bB.cons (.int _ _) (bB.nil _))) (bB.nil _)))
 .simp only[dd,fB,if_true,List.drop_zero];rw[if_neg (by omega)];simp only[dd,if_true,List.drop_zero,loose]
def Same(B:Nat)(h h':AH):Prop:=∀i,i<B->h'[i]? =h[i]?
theorem Same.refl(B h):Same B h h:=fun _ _=>rfl
theorem Same.trans{B h h1 h2}(a:Same B h h1)(b:Same B h1 h2):Same B h h2:=fun i hi=>(b i hi).trans (a i hi)
theorem Same.app{B}(h l)(hB:B<=h.length):Same B h (h++l):=fun i hi=>by grind
theorem Same.set{B i h}(hi:B<=i)(o):Same B h (h.set i o):=fun k hk=>by rw[List.getElem?_set_ne (by omega)]
structure JE(Γ:GG)(B L b:Nat)(X:Value->Prop)(items:List (Ex×Nat))(Iv:List (Ex×Nat)->AH->Prop)(fh:AH->Prop):Prop where
 low:B<=b
 inv:∀ae h h',Iv ae h->nP b h h'->Iv ae h'
 ki:∀h h',fh h->nP b h h'->fh h'
 yl:∀ae x r h,items=ae++x::r->b<=h.length->Iv ae h->uP Tryz.prog Γ B L [y5 x] h (fun v h'=>Kept b h h'/\Same B h h'/\((v= .bool true/\Iv (ae++[x]) h')\/(v= .bool false/\fh h'))) X
theorem kS{B h0 h1 X u}(hs:Same B h0 h1)(hl:h0.length<=h1.length)(hX:X u):xI B h0 X (jN u) (jO B h1):=
 ⟨u,rfl,hX,by rw[y3];exact hl,fun i hi=>by rw[AB hi];exact hs i hi⟩
theorem Zt{b c h h'}(F:nP c h h')(hb:b<=c):nP b h h':=⟨F.1,fun i ob e=>(F.2 i ob e).imp id fun⟨q1,q2⟩=>⟨Nat.le_trans hb q1,q2⟩⟩
theorem Ga{c i h h' ob}(F:nP c h h')(hi:i<c)(e:h[i]? =some ob):h'[i]? =some ob:=by
 rcases F.2 i ob e with q|⟨q,_⟩
 .exact q
 .omega
theorem akK{c i h h'}(F:nP c h h')(hi:i<c)(o):nP c (h.set i o) (h'.set i o):=by
 refine⟨by simpa using F.1,fun k ob e=>?_⟩;by_cases hk:i=k
 .subst hk;have hl:i<h.length:=by have:=(List.getElem?_eq_some_iff.1 e).1;simpa using this
  rw[List.getElem?_set_self hl]at e;have:=F.1;grind
 .rw[List.getElem?_set_ne hk]at e|-;exact F.2 k ob e
theorem akL{b h h1 h2}(a:nP b h h1)(k:nP b h1 h2):nP b h h2:=⟨Nat.le_trans a.1 k.1,fun i ob e=>by
 rcases a.2 i ob e with q|q
 .exact k.2 i ob q
 .exact .inr q⟩
structure Kq(b:Nat)(H h:AH):Prop where
 len:H.length<=h.length
 fn:∀(i:Nat) (c:AV) (T:TypeId),b<=i->c.Y5=true->H[i]? =some (.row [c] T)->h[i]? =some (.row [c] T)
 lp:∀(i:Nat) (st:LoopState) (pe:Option Code) (li:LI),b<=i->i<H.length->(H[i]? =some (.loop st pe li)<->h[i]? =some (.loop st pe li))
theorem akM{b H h}(K:Kept b H h):Kq b H h:=⟨K.len,K.fn,fun i st pe li hi _=>K.lp i st pe li hi⟩
theorem Kq.kept{b H h h2}(A:Kq b H h)(K:Kept b h h2):Kq b H h2:=
 ⟨Nat.le_trans A.len K.len,fun i c T hi hc e=>K.fn i c T hi hc (A.fn i c T hi hc e),fun i st pe li hi hl=>(A.lp i st pe li hi hl).trans (K.lp i st pe li hi)⟩
theorem Kq.RS{b c H h h2}(A:Kq b H h)(hc:H.length<=c)(F:nP c h h2):Kq b H h2:=by
 refine⟨Nat.le_trans A.len F.1,fun i x T hi hx e=>?_,fun i st pe li hi hl=>(A.lp i st pe li hi hl).trans ?_⟩
 .exact Ga F (by grind) (A.fn i x T hi hx e)
 .constructor
  .exact fun e=>Ga F (by omega) e
  .intro e;have j7:i<h.length:=by have:=A.len;omega
   have:=Ga F (by omega) (List.getElem?_eq_getElem j7);grind
theorem Kq.full{b c H h}(A:Kq b H h)(hc:c<=H.length)(K:Kept c H h):Kept b H h:=
 ⟨A.len,A.fn,fun i st pe li hi=>by
  by_cases hl:i<H.length
  .exact A.lp i st pe li hi hl
  .exact K.lp i st pe li (by omega),K.cZ⟩
theorem Zu(d a b):lM d (a++b)=lM d a++lM d b:=by
 induction a with
 |nil=>rfl
 |cons x r ih=>rw[List.cons_append,lM,lM,ih,List.append_assoc]
theorem Zv(Γ:GG)(B:Nat)(X:Value->Prop):∀(m:Nat) (x:Ex) (d L b:Nat) (Iv:List (Ex×Nat)->AH->Prop) (fh:AH->Prop) (h:AH),SizeOf.sizeOf x<m->fj x->d+mQ x<=1000000->JE Γ B L b X (iR d x) Iv fh->b<=h.length->Iv [] h->
  dq Tryz.prog Γ B 133 [.yield L,.bS (l_ x),.bS [.int .i64 d]] h (fun _ h'=>Kept b h h'/\Same B h h'/\(Iv (iR d x) h'\/fh h')) X
 |0,_,_,_,_,_,_,_,hk,_,_,_,_,_=>absurd hk (Nat.not_lt_zero _)
 |m+1,.mk k n no s l,d,L,b,Iv,fh,h,cj,hs,hd,C,hb,hI=>by
  refine AF (rs:=[]) 133 Tryz.func133 rfl rfl rfl rfl (by kernel_rfl) ?_;rw[l_];simp only[Ex.k,Ex.n,Ex.no,Ex.name,Ex.l];refine aU ?_;obtain⟨bx,Gb⟩:∃bx:cO,bx= .row [.yield L] 198:=⟨_,rfl⟩;have hn:fk [bx]:=fun ob ho st pe li e=>by grind
  rw[<-Gb];have aB1:=C.low;have Se:Kept b h (h++[bx]):= .app b h hn;have Zw:Same B h (h++[bx]):= .app h _ (by omega);have Co:(h++[bx])[h.length]? =some (.row [.yield L] 198):=by rw[<-Gb];simp
  refine(C.yl [] (.mk k n no s l,d) (lM (d+1) l) _ (by rw[iR];rfl) (by simp;omega) (C.inv _ _ _ hI (.app b h _))).mono ?_ ?_;rotate_left
  .intro u hu;exact kS Zw (by simp) hu
  rintro v h1 ⟨q1,q2,q3⟩;have Gc:=Se.trans q1;have Zx:=Zw.trans q2;have h1b:=q1.fn h.length _ _ hb rfl Co;rcases q3 with⟨rfl,q3⟩|⟨rfl,q3⟩;rotate_left
  .refine aU ?_;exact⟨Gc,Zx,.inr q3⟩
  simp(disch:=omega) only[go_sem,seval,List.length_map];have nN:=hs.len;rw[iR]at C|-;rw[List.nil_append]at q3;refine D6 (B:=B) (β:=AH) l [1,2,3,14,15,16] (fun ae _=>[(1,.bS [.int .i64 k,.int .i64 n,.int .i64 no,.str ⟨⟨s⟩⟩,.sl (l.map aK) .free]),(2,.bS [.int .i64 d]),(3,.ptr (some (h.length,0))),(14,.sl (l.map aK) .free),(15,.int .i64 l.length),(16,.int .i64 ae.length)]) (fun hx=>hx)
   (fun ae _ hx=>Kept b (h++[bx]) hx/\Same B h hx/\Iv ((.mk k n no s l,d)::lM (d+1) ae) hx) h1 ?_ rfl ⟨q1,Zx,q3⟩ (by kernel_rfl) ?_ ?_
  .simp(disch:=omega) only[go_sem,seval,List.length_nil]
  .rintro ae x r hx bT ⟨k1,k2,k3⟩;have hlen:l.length=ae.length+1+r.length:=by rw[bT];simp;omega
   have e1:(l.map aK)[ae.length]? =some (aK x):=by rw[bT];exact fZ ..
   have iD:x∈l:=by rw[bT];simp
   refine aU ?_;refine aJ.pos (by omega) ?_;rw[tT,l_]at e1;simp(disch:=omega) only[go_sem,seval,e1];have Nv:d+1+mQ x<=1000000:=by
    rw[mQ]at hd;have:mQ x<=oR l:=by rw[bT,YG,oR];omega
    omega
   refine dq.cv ((JD Γ x (d+1) _).args (by rw[tT,l_];push_cast;rfl)) ?_;simp(disch:=omega) only[go_sem,seval,rS];refine bu (ee.keep [1,2,3,14,15,16,23]) ?_;obtain⟨rx,Nc⟩:∃rx:cO,rx= .row [.int .i64 x.k,.int .i64 x.n,.int .i64 x.no,.str ⟨⟨x.name⟩⟩,.sl (x.l.map aK) .free] 26:=⟨_,rfl⟩;have Nw:fk [rx]:=fun ob ho st pe li e=>by grind
   rw[<-Nc];refine R0 (B:=B) (X:=X) rfl (by have:=k1.len;simp at this|-;omega) (fun li iZ=>?_) ?_
   .obtain⟨L2,oq⟩:∃L2,L2=(hx++[rx]).length:=⟨_,rfl⟩;have Sf:L2=hx.length+1:=by rw[oq];simp
    obtain⟨H0,hH⟩:∃H0:AH,H0=hx++[rx]++[.loop .ready none li]:=⟨_,rfl⟩;have H0l:H0.length=L2+1:=by rw[hH,oq];simp
    have Sg:H0[L2]? =some (.loop .ready none li):=by rw[hH,oq];simp
    have rI:=k1.len;simp only[List.length_append,List.length_cons,List.length_nil]at rI;have Zy:=k1.fn h.length _ _ hb rfl Co;have H0b:H0[h.length]? =some (.row [.yield L] 198):=by rw[hH,List.append_assoc,List.getElem?_append_left (by omega)];exact Zy
    have hFx:nP b hx H0:=by rw[hH,List.append_assoc];exact .app b hx _
    have hSx:Same B h H0:=k2.trans (by rw[hH,List.append_assoc];exact .app hx _ (by omega));rw[<-oq,<-hH];obtain⟨base,Ec⟩:∃base,base=(Ex.mk k n no s l,d)::lM (d+1) ae:=⟨_,rfl⟩;have kK:(Ex.mk k n no s l,d)::lM (d+1) l=base++iR (d+1) x++lM (d+1) r:=by rw[Ec,bT,Zu,lM];simp
    have jk:(Ex.mk k n no s l,d)::lM (d+1) (ae++[x])=base++iR (d+1) x:=by rw[Ec,Zu,lM,lM];simp
    rw[<-Ec]at k3;have C2:JE Γ B L2 (L2+1) X (iR (d+1) x) (fun dn hq=>Iv (base++dn) hq/\Kq b H0 hq/\Same B h hq) (fun hq=>fh hq/\hq[L2]? =some (.loop .done (some .ret) li)/\Kq b H0 (hq.set L2 (.loop .ready none li))/\Same B h hq):=by
     refine⟨by omega,?_,?_,?_⟩
     .rintro dn h2 h3 ⟨m1,m2,m3⟩ F;have hm:=m2.len;exact⟨C.inv _ _ _ m1 (Zt F (by omega)),m2.RS (by omega) F,fun i hi=>by
       have lF:i<h2.length:=by omega
       rw[<-m3 i hi,List.getElem?_eq_getElem lF];exact Ga F (by omega) (List.getElem?_eq_getElem lF)⟩
     .rintro h2 h3 ⟨m1,m2,m3,m4⟩ F;have hm:=m3.len;simp only[List.length_set]at hm;exact⟨C.ki _ _ m1 (Zt F (by omega)),Ga F (by omega) m2,m3.RS (by omega) (akK F (by omega) _),fun i hi=>by
       have lF:i<h2.length:=by omega
       rw[<-m4 i hi,List.getElem?_eq_getElem lF];exact Ga F (by omega) (List.getElem?_eq_getElem lF)⟩
     .rintro dn y ry h2 nT jH ⟨m1,m2,m3⟩;have Si:h2[L2]? =some (.loop .ready none li):=(m2.lp L2 _ _ _ (by omega) (by omega)).1 Sg;have h2b:=m2.fn h.length _ _ hb rfl H0b;rw[y5];refine Jx iZ Tryz.func133 Si rfl rfl Ty.mixed (by kernel_rfl) (by kernel_rfl) ?_;rw[l_];obtain⟨pr,JF⟩:∃pr:cO,pr= .row [.int .i64 y.1.k,.int .i64 y.1.n,.int .i64 y.1.no,.str ⟨⟨y.1.name⟩⟩,.sl (y.1.l.map aK) .free,.int .i64 y.2] 126:=⟨_,rfl⟩;have hnp:fk [pr]:=fun ob ho st pe li e=>by rw[List.mem_singleton]at ho;subst ho;rw[JF]at e;cases e
      obtain⟨h4,Ed⟩:∃h4,h4=h2++[pr]:=⟨_,rfl⟩;have Cq:∀c,Kept c h2 h4:=fun c=>by rw[Ed];exact .app c h2 hnp
      have h4l:h4.length=h2.length+1:=by rw[Ed];simp
      have JG:h4[L2]? =some (.loop .ready none li):=((Cq 0).lp L2 _ _ _ (by omega)).1 Si;have h4b:=(Cq b).fn h.length _ _ hb rfl h2b;have Zz:h4[h2.length]? =some pr:=by rw[Ed];simp
      have hF4:nP b h2 h4:=by rw[Ed];exact .app b h2 _
      have Sk:Same B h2 h4:=by rw[Ed];exact .app h2 _ (by omega)
      rw[JF]at Zz Ed;refine aU ?_;rw[<-Ed];have pN:(h4.set L2 (.loop .busy none li)).set L2 (.loop .ready none li)=h4:=by rw[List.set_set,ph JG]
      have hbL:(h4.set L2 (.loop .busy none li))[L2]? =some (.loop .busy none li):=by rw[List.getElem?_set_self (xA JG)]
      have Qg:(h4.set L2 (.loop .busy none li))[h.length]? =some (.row [.yield L] 198):=by rw[List.getElem?_set_ne (by omega)];exact h4b
      have hbp:(h4.set L2 (.loop .busy none li))[h2.length]? =some (.row [.int .i64 y.1.k,.int .i64 y.1.n,.int .i64 y.1.no,.str ⟨⟨y.1.name⟩⟩,.sl (y.1.l.map aK) .free,.int .i64 y.2] 126):=by rw[List.getElem?_set_ne (by omega)];exact Zz
      simp(disch:=omega) only[go_sem,seval,Qg,hbp];refine⟨JG,?_⟩;have hC:=C.yl (base++dn) y (ry++lM (d+1) r) (h4.set L2 (.loop .busy none li)) (by rw[kK,nT];simp) (by simp;omega) (C.inv _ _ _ m1 (akL hF4 (.set (by omega) JG _)));rw[y5,l_]at hC;refine hC.mono ?_ ?_
      .rintro v h5 ⟨q1,q2,q3⟩;have JH:=(q1.lp L2 _ _ _ (by omega)).1 hbL;have qT:=Kept.RT JG q1;have qK:=(Cq b).trans qT;have qS:Same B h2 (h5.set L2 (.loop .ready none li)):=((Sk.trans (.set (by omega) _)).trans q2).trans (.set (by omega) _);have ZB:Same B h2 (h5.set L2 (.loop .done (some .ret) li)):=((Sk.trans (.set (by omega) _)).trans q2).trans (.set (by omega) _);rcases q3 with⟨rfl,q3⟩|⟨rfl,q3⟩
       .simp(disch:=omega) only[go_sem,seval,JH];refine⟨qK.mono (by omega),qS,.inl ⟨?_,m2.kept qK,m3.trans qS⟩⟩;rw[<-List.append_assoc];exact C.inv _ _ _ q3 (.set (by omega) JH _)
       .simp(disch:=omega) only[go_sem,seval,JH];refine⟨?_,ZB,.inr ⟨C.ki _ _ q3 (.set (by omega) JH _),by rw[List.getElem?_set_self (xA JH)],?_,m3.trans ZB⟩⟩
        .have:=(qK.mono (show b<=L2+1 by omega)).Nk (s:= .done) (p:=some .ret) (li:=li) (Nat.lt_succ_self L2) Si;rwa [List.set_set]at this
        .rw[List.set_set];exact m2.kept qK
      .intro u hu;exact kS (Sk.trans (.set (by omega) _)) (by simp;omega) hu
    refine(Zv Γ B X m x (d+1) L2 (L2+1) _ _ H0 (pX iD cj) (hs.mem x iD) Nv C2 (by omega) ⟨by rw[List.append_nil];exact C.inv _ _ _ k3 hFx,akM (Kept.refl b H0),hSx⟩).mono ?_ (fun u hu=>hu);rintro v h3 ⟨q1,q2,q3⟩;subst oq;rcases q3 with⟨q3,q4,q5⟩|⟨q3,q4,q5,q6⟩
    .have hf:=q4.full (by omega) q1;have Sm:=(hf.lp _ _ _ _ (by omega)).1 Sg;refine Cm (li0:=li) Sm (by rw[<-hH];exact hf.cZ) (by simp) ?_;rw[Cf];refine aU ?_;refine bu (pq (B:=B) _ _ _ _ (by kernel_rfl)) ?_;rw[hH]at hf;have hE:=Kept.Y7 Nw hf;rw[Sf]at hE Sm;refine cd (h3.set (hx.length+1) .dead) ⟨k1.trans hE,q5.trans (.set (by omega) _),?_⟩ ?_ rfl
     .rw[jk];exact C.inv _ _ _ q3 (.set (by omega) Sm _)
     .simp(disch:=omega) only[go_sem,seval,List.length_append]
    .obtain⟨hy,Nz⟩:∃hy,hy=h3.set (hx++[rx]).length (.loop .ready none li):=⟨_,rfl⟩;rw[<-Nz]at q5;have h3l:=(List.getElem?_eq_some_iff.1 q4).1;have hold:∀(i:Nat) (st:LoopState) (pe:Option Code) (lj:LI),h3[i]? =some (.loop st pe lj)->∃qA qB lj,H0[i]? =some (.loop qA qB lj):=q1.cZ;have ZC:Kept b H0 hy:=⟨q5.len,q5.fn,fun i st pe lj hi=>by
      by_cases hl:i<H0.length
      .exact q5.lp i st pe lj hi hl
      .rw[Nz,List.getElem?_set_ne (by omega)];exact q1.lp i st pe lj (by omega),fun i st pe lj e=>by
      by_cases hl:(hx++[rx]).length=i
      .subst hl;exact⟨_,_,_,Sg⟩
      .rw[Nz,List.getElem?_set_ne hl]at e;exact hold i st pe lj e⟩
     refine Cm (li0:=li) q4 (by rw[<-hH];exact hold) (by simp) ?_;refine bu (Rv Ty.mixed (by kernel_rfl)) ?_;rw[hH]at ZC;have hE:=Kept.Y7 Nw ZC;rw[Nz,List.set_set,Sf]at hE;refine⟨Se.trans (k1.trans hE),q6.trans (.set (by omega) _),.inr ?_⟩;have:=C.ki _ _ q3 (.set (show b<=(hx++[rx]).length by omega) q4 .dead);rwa [Sf]at this
   .intro u hu;exact kS (k2.trans (.app hx _ (by have:=k1.len;simp at this;omega))) (by have:=k1.len;simp at this|-;omega) hu
  .rintro hx ⟨k1,k2,k3⟩;refine aU ?_;exact⟨Se.trans k1,k2,.inl k3⟩
theorem ZD(Γ B X x d L b Iv fh h)(hs:fj x)(hd:d+mQ x<=1000000)(C:JE Γ B L b X (iR d x) Iv fh)(hb:b<=h.length)(hI:Iv [] h):
  dq Tryz.prog Γ B 133 [.yield L,.bS (l_ x),.bS [.int .i64 d]] h (fun _ h'=>Kept b h h'/\Same B h h'/\(Iv (iR d x) h'\/fh h')) X:=
 Zv Γ B X _ x d L b Iv fh h (Nat.lt_succ_self _) hs hd C hb hI
theorem NA(K A A' Y Z:AH)(o)(hl:A.length=A'.length)(hA:fk A')(hZ:fk Z):Kept (K.length+A.length+1) (K++A++o::Y) (K++A'++o::(Y++Z)):=by
 have g:∀i,K.length+A.length<=i->i<K.length+A.length+1+Y.length->(K++A'++o::(Y++Z))[i]? =(K++A++o::Y)[i]? :=fun i h1 h2=>by grind
 have out:∀i,K.length+A.length+1+Y.length<=i->(K++A++o::Y)[i]? =none:=fun i h1=>by grind
 have nl:∀i st pe li,K.length+A.length+1+Y.length<=i->(K++A'++o::(Y++Z))[i]? ≠some (.loop st pe li):=fun i st pe li h1 e=>by rw[List.getElem?_append_right (by simp;omega)]at e;simp only[List.length_append]at e;obtain⟨k,rfl⟩:∃k,i=K.length+A'.length+1+Y.length+k:=⟨i-(K.length+A'.length+1+Y.length),by omega⟩;rw[show K.length+A'.length+1+Y.length+k-(K.length+A'.length)=(Y.length+k)+1 by omega,List.getElem?_cons_succ,List.getElem?_append_right (by omega),Nat.add_sub_cancel_left]at e;exact hZ _ (List.mem_of_getElem? e) _ _ _ rfl
 refine⟨by simp;omega,fun i c T hi hc e=>?_,fun i st pe li hi=>?_,fun i st pe li e=>?_⟩
 .grind
 .grind
 .by_cases h2:i<K.length+A.length+1+Y.length
  .by_cases h3:i<K.length+A.length
   .by_cases h4:i<K.length
    .grind
    .rw[List.append_assoc,List.getElem?_append_right (by omega),List.getElem?_append_left (by omega)]at e;exact absurd rfl (hA _ (List.mem_of_getElem? e) st pe li)
   grind
  grind
section
variable {Γ:GG} {N B:Nat} {σ:Tm} {Q:Exit->Tm->AH->Prop} {f0:FuncId}
theorem ZE{g ps assign body X}(x d K)(F:List (Ex×Nat)->AH)(J:List (Ex×Nat)->Prop)(St:List (Ex×Nat)->Ex×Nat->Prop)
  (hg:ev Γ σ g=rS x d)(hB:B<=K.length)(hs:fj x)(hd:d+mQ x<=1000000)(c)(hF:∀ae,(F ae).length=c)(Gd:∀ae,fk (F ae))(hJ:J [])
  (yl:∀li,li=⟨N,σ,ps,assign,body,some f0⟩->∀ae y r Y,iR d x=ae++y::r->J ae->uP Tryz.prog Γ B (K.length+c) [y5 y] (K++F ae++ .loop .ready none li::Y) (fun v h'=>(v= .bool true/\J (ae++[y])/\∃Z,fk Z/\h'=K++F (ae++[y])++ .loop .ready none li::(Y++Z))\/(v= .bool false/\St ae y/\∃Z,fk Z/\h'=K++F ae++ .loop .done (some .ret) li::(Y++Z))) X)
  (hN:J (iR d x)->∀Y,Q .normal σ (K++F (iR d x)++ .dead::Y))
  (hS:∀ae y r,iR d x=ae++y::r->St ae y->∀Y,bw Tryz.prog Γ N .ret Q σ (K++F ae++ .dead::Y))
  (hX:∀u,X u->Q (.panic (jN u)) σ (jO B (K++F []))):ee Tryz.prog Γ f0 N (.rangeFunc g ps assign body) Q σ (K++F []):=by
 refine R0 (B:=B) (X:=X) (hg.trans (by rw[rS])) (by simp;omega) (fun li iZ=>?_) hX;have hl:∀ae,(K++F ae).length=K.length+c:=fun ae=>by rw[List.length_append,hF]
 have pN:∀ae o o' (Y:AH),(K++F ae++o::Y).set (K.length+c) o'=K++F ae++o'::Y:=fun ae o o' Y=>by simp_all
 have sC:∀ae o (Y:AH),(K++F ae++o::Y)[K.length+c]? =some o:=fun ae o Y=>by grind
 have wO:∀ae ZF (Y Y':AH),Same B (K++F ae++Y) (K++F ZF++Y'):=fun ae ZF Y Y' i hi=>by grind
 have split:∀ae o (Y h':AH),nP (K.length+c+1) (K++F ae++o::Y) h'->∃Y',h'=K++F ae++o::Y':=fun ae o Y h' hf=>by
  have e:K++F ae++o::Y=(K++F ae++[o])++Y:=by simp
  rw[e]at hf;have j7:(K++F ae++[o]).length=K.length+c+1:=by rw[List.length_append,hl];rfl
  rw[<-j7]at hf;obtain⟨Y',rfl,_⟩:=hf.split;exact⟨Y',by simp⟩
 have C:JE Γ B (K.length+c) (K.length+c+1) X (iR d x) (fun ae hq=>J ae/\∃Y,hq=K++F ae++ .loop .ready none li::Y) (fun hq=>∃ae y r Y,iR d x=ae++y::r/\St ae y/\hq=K++F ae++ .loop .done (some .ret) li::Y):=by
  refine⟨by omega,?_,?_,?_⟩
  .grind
  .grind
  .rintro ae y r h1 nT hb ⟨j,Y,rfl⟩;refine(yl li iZ ae y r Y nT j).mono ?_ (fun u hu=>hu);rintro v h2 (⟨rfl,q1,Z,q2,rfl⟩|⟨rfl,q1,Z,q2,rfl⟩)
   .refine⟨?_,wO _ _ _ _,.inl ⟨rfl,q1,_,rfl⟩⟩;have:=NA K (F ae) (F (ae++[y])) Y Z (.loop .ready none li) (by rw[hF,hF]) (Gd _) q2;rwa [hF]at this
   .refine⟨?_,wO _ _ _ _,.inr ⟨rfl,ae,y,r,_,nT,q1,rfl⟩⟩;have:=NA K (F ae) (F ae) Y Z (.loop .ready none li) rfl (Gd _) q2;rw[hF]at this;have:=this.Nk (s:= .done) (p:=some .ret) (li:=li) (Nat.lt_succ_self (K.length+c)) (sC ae _ Y);rwa [pN]at this
 rw[hl []];refine(ZD Γ B X x d (K.length+c) (K.length+c+1) _ _ (K++F []++[.loop .ready none li]) hs hd C (by simp[hF];omega) ⟨hJ,[],rfl⟩).mono ?_ (fun u hu=>hu);rintro v h3 ⟨q1,q2,q3⟩;rcases q3 with⟨j,Y,rfl⟩|⟨ae,y,r,Y,e1,e2,rfl⟩
 .rw[<-hl []]at*;refine Cm (li0:=li) (by rw[hl];exact sC _ _ _) q1.cZ (by simp) ?_;rw[Cf,hl,pN];exact hN j Y
 .rw[<-hl []]at*;refine Cm (li0:=li) (by rw[hl];exact sC _ _ _) q1.cZ (by simp) ?_;rw[hl,pN];exact hS ae y r e1 e2 Y
theorem ZG{g ps assign body X}(x d K)(J:List (Ex×Nat)->Prop)(St:List (Ex×Nat)->Ex×Nat->Prop)
  (hg:ev Γ σ g=rS x d)(hB:B<=K.length)(hs:fj x)(hd:d+mQ x<=1000000)(hJ:J [])
  (yl:∀li,li=⟨N,σ,ps,assign,body,some f0⟩->∀ae y r Y,iR d x=ae++y::r->J ae->uP Tryz.prog Γ B K.length [y5 y] (K++ .loop .ready none li::Y) (fun v h'=>(v= .bool true/\J (ae++[y])/\∃Z,fk Z/\h'=K++ .loop .ready none li::(Y++Z))\/(v= .bool false/\St ae y/\∃Z,fk Z/\h'=K++ .loop .done (some .ret) li::(Y++Z))) X)
  (hN:J (iR d x)->∀Y,Q .normal σ (K++ .dead::Y))
  (hS:∀ae y r,iR d x=ae++y::r->St ae y->∀Y,bw Tryz.prog Γ N .ret Q σ (K++ .dead::Y))
  (hX:∀u,X u->Q (.panic (jN u)) σ (jO B K)):ee Tryz.prog Γ f0 N (.rangeFunc g ps assign body) Q σ K:=by
 have e:K=K++[]:=(List.append_nil K).symm;have:=ZE (Γ:=Γ) (N:=N) (B:=B) (σ:=σ) (Q:=Q) (f0:=f0) (g:=g) (ps:=ps) (assign:=assign) (body:=body) (X:=X) x d K (fun _=>[]) J St hg hB hs hd 0 (fun _=>rfl) (fun _ ob ho=>by simp at ho) hJ
  (by simpa only[List.append_nil,Nat.add_zero]using yl) (by grind) (by grind) (by grind)
 simpa only[List.append_nil]using this
end
theorem ll(Γ B b e h)(hB:B<=h.length){R X}(ht:b=true->R (.tuple []) h)(hf:b=false->X (ma e)):dq Tryz.prog Γ B 97 [.bool b,.int .i64 e] h R X:=by
 cases b with
 |true=>exact dq.cv (akI Γ e h) (ht rfl)
 |false=>exact(akJ Γ B e h hB).mono (fun _ _ q=>q.elim) (fun u hu=>by rw[hu];exact hf rfl)
theorem AM{B K}(hB:B<=K.length)(a b):Same B (K++a) (K++b):=fun i hi=>by grind
theorem akZ(Γ B p h)(hB:B<=h.length)(hs:lO p)(cj:∀x∈exprs p,dT x<=1000):
  dq Tryz.prog Γ B 35 [iI p] h (fun v h'=>h'=h/\v= .tuple []/\nM p=true) fun u=>u=ma 2/\nM p=false:=by
 refine dq.drop ?_;refine AF (rs:=[]) 35 Tryz.func35 rfl rfl rfl rfl (by kernel_rfl) ?_;have hk:=hs.kinds;have ho:=hs.bf;have hr:=hs.rules;have c1:=fun h hl=>Sd Γ p h hs hl;have hd:nM p=(decide (p.bf.length<=32/\p.kinds.length<=16/\p.rules.length<=16)&&(exprs p).all fun x=>!lN x):=rfl;rw[jj]at c1|-;simp(disch:=omega) only[go_sem,seval,kA];obtain⟨ok,eD⟩:∃ok,ok=decide (p.bf.length<=32/\p.kinds.length<=16/\p.rules.length<=16):=⟨_,rfl⟩;rw[<-eD]at hd;have hS:Same B h (h++[.row [.str ⟨⟨p.name⟩⟩,.sl (bq p.kinds) .free,.sl (bq p.bf) .free,.sl (p.rules.map bY) .free,.int .i64 p.change.k,.int .i64 p.change.n,.int .i64 p.change.no,.str ⟨⟨p.change.name⟩⟩,.sl (p.change.l.map aK) .free,.int .i64 p.mode] 28]):= .app h _ hB;refine aJ.intro (fun h1=>?_) (fun h1=>?_)<;>simp(disch:=omega) only[go_sem,seval,kA];rotate_left
 .rw[decide_eq_false (by omega)]at eD;refine ll Γ _ _ _ _ (by simp;omega) (fun e=>by cases e) (fun _=>?_);exact kS hS (by simp) ⟨rfl,by rw[hd,eD];rfl⟩
 refine aJ.intro (fun h2=>?_) (fun h2=>?_)<;>simp(disch:=omega) only[go_sem,seval,List.length_map];rotate_left
 .rw[decide_eq_false (by omega)]at eD;refine ll Γ _ _ _ _ (by simp;omega) (fun e=>by cases e) (fun _=>?_);exact kS hS (by simp) ⟨rfl,by rw[hd,eD];rfl⟩
 refine ll Γ _ _ _ _ (by simp;omega) (fun h3=>?_) (fun h3=>?_);rotate_left
 .have h3:=of_decide_eq_false h3;rw[decide_eq_false (by omega)]at eD;exact kS hS (by simp) ⟨rfl,by rw[hd,eD];rfl⟩
 have h3:=of_decide_eq_true h3;rw[decide_eq_true (by omega)]at eD;rw[eD,Bool.true_and]at hd;refine aU ?_;refine dq.cv (c1 _ (by omega)) ?_;simp(disch:=omega) only[go_sem,seval,List.length_map];have iD:(exprs p).length=p.rules.length+1:=by simp[exprs]
 refine D6 (B:=B) (β:=AH) (exprs p) [1,24,25,26] (fun ae _=>[(1,.ptr (some (h.length,0))),(24,.sl ((exprs p).map aK) .free),(25,.int .i64 (exprs p).length),(26,.int .i64 ae.length)]) (fun Y=>h++ .row [.str ⟨⟨p.name⟩⟩,.sl (bq p.kinds) .free,.sl (bq p.bf) .free,.sl (p.rules.map bY) .free,.int .i64 p.change.k,.int .i64 p.change.n,.int .i64 p.change.no,.str ⟨⟨p.change.name⟩⟩,.sl (p.change.l.map aK) .free,.int .i64 p.mode] 28::Y)
  (fun ae _ _=>ae.all (fun x=>!lN x)=true) [] ?_ rfl rfl (by kernel_rfl) ?_ ?_
 .exact dL
 .rintro ae x r Y bT hp;have hlen:(exprs p).length=ae.length+1+r.length:=by rw[bT];simp;omega
  have e1:((exprs p).map aK)[ae.length]? =some (aK x):=by rw[bT];exact fZ ..
  have hx:x∈exprs p:=by rw[bT];simp
  simp(disch:=omega) only[go_sem,seval];refine aJ.pos (by omega) ?_;rw[tT,l_]at e1;simp(disch:=omega) only[go_sem,seval,e1];refine dq.cv ((JD Γ x 1 _).args (by rw[tT,l_];rfl)) ?_;simp(disch:=omega) only[go_sem,seval,rS];refine bu (ee.keep [1,4,24,25,26,31]) ?_;obtain⟨K,hK⟩:∃K:AH,K=h++ .row [.str ⟨⟨p.name⟩⟩,.sl (bq p.kinds) .free,.sl (bq p.bf) .free,.sl (p.rules.map bY) .free,.int .i64 p.change.k,.int .i64 p.change.n,.int .i64 p.change.no,.str ⟨⟨p.change.name⟩⟩,.sl (p.change.l.map aK) .free,.int .i64 p.mode] 28::(Y++[.row [.int .i64 x.k,.int .i64 x.n,.int .i64 x.no,.str ⟨⟨x.name⟩⟩,.sl (x.l.map aK) .free] 26]):=⟨_,rfl⟩;have lQ:h.length+(Y.length+1+1)=K.length:=by rw[hK];simp
  have Sq:∀l,Same B h (K++l):=fun l=>by rw[hK,List.append_assoc];exact .app h _ hB
  have hh:∀l,h++ .row [.str ⟨⟨p.name⟩⟩,.sl (bq p.kinds) .free,.sl (bq p.bf) .free,.sl (p.rules.map bY) .free,.int .i64 p.change.k,.int .i64 p.change.n,.int .i64 p.change.no,.str ⟨⟨p.change.name⟩⟩,.sl (p.change.l.map aK) .free,.int .i64 p.mode] 28::(Y++ .row [.int .i64 x.k,.int .i64 x.n,.int .i64 x.no,.str ⟨⟨x.name⟩⟩,.sl (x.l.map aK) .free] 26::l)=K++l:=fun l=>by rw[hK];simp
  rw[lQ,hh];have ZH:dT x<=1000:=cj x hx;have ak0:fj x:=by
   rw[exprs]at hx;rcases List.mem_append.1 hx with hx|hx
   .obtain⟨r,hr,rfl⟩:=List.mem_map.1 hx;exact hs.xD r hr
   .rw[List.mem_singleton]at hx;subst hx;exact hs.change
  have Sr:=Jk x;have bad:∀ae y r,iR 1 x=ae++y::r->¬(ae.length+1<=256/\y.2<=16)->nM p=false:=fun ae y r e hn=>by
   have hl:=congrArg List.length e;rw[RD]at hl;simp only[List.length_append,List.length_cons]at hl;have hL:lN x=true:=by
    rw[lN,Bool.or_eq_true,decide_eq_true_eq,decide_eq_true_eq];by_cases h1:ae.length+1<=256
    .right;have h2:¬y.2<=16:=fun h2=>hn ⟨h1,h2⟩;rw[<-Nat.not_le];intro h3;exact h2 ((RE 16 1 x (by omega)).2 (by omega) y (by rw[e];simp))
    .left;omega
   grind
  refine ZE (B:=B) (X:=fun u=>u=ma 2/\nM p=false) x 1 K (fun ae=>[.row [.int .i64 ae.length] 3]) (fun ae=>ae.length<=256/\∀y∈ae,y.2<=16) (fun _ _=>False) ?_ (by rw[hK];simp;omega) ak0 (by omega) 1 (fun _=>rfl) (fun ae ob ho st pe li e=>by grind) ⟨by simp,by simp⟩ ?_ ?_ ?_ ?_
  .simp(disch:=omega) only[go_sem,seval,rS]
  .rintro li iZ ae y r Z nT ⟨j1,j2⟩;rw[y5,l_];refine bu (Jx iZ Tryz.func35 (by simp) rfl rfl Ty.mixed (by kernel_rfl) (by kernel_rfl)) ?_;have uS:B<=K.length:=by rw[hK];simp;omega
   refine aJ.intro (fun h4=>?_) (fun h4=>?_)<;>simp(disch:=omega) only[go_sem,seval]
   .refine ll Γ _ _ _ _ (by simp;omega) (fun h5=>?_) (fun h5=>?_)
    .have h5:=of_decide_eq_true h5;refine aU ?_;refine .inl ⟨⟨by simp;omega,fun z hz=>?_⟩,[.row [.int .i64 y.1.k,.int .i64 y.1.n,.int .i64 y.1.no,.str ⟨⟨y.1.name⟩⟩,.sl (y.1.l.map aK) .free,.int .i64 y.2] 126],?_,?_⟩
     .grind
     .intro ob ho st pe lj e;grind
     .simp
    .have h5:=of_decide_eq_false h5;exact kS (AM uS _ _) (by simp) ⟨rfl,bad ae y r nT (by omega)⟩
   .refine ll Γ _ _ _ _ (by simp;omega) (fun h5=>by cases h5) (fun h5=>?_);exact kS (AM uS _ _) (by simp) ⟨rfl,bad ae y r nT (by omega)⟩
  .rintro⟨j1,j2⟩ Z;have aB5:lN x=false:=by rw[RD]at j1;have:=(RE 16 1 x (by omega)).1 j2;rw[lN,decide_eq_false (by omega),decide_eq_false (by omega)];rfl
   refine aU ?_;refine bu (pq (B:=B) _ _ _ _ (by kernel_rfl)) ?_;refine cd (Y++ .row [.int .i64 x.k,.int .i64 x.n,.int .i64 x.no,.str ⟨⟨x.name⟩⟩,.sl (x.l.map aK) .free] 26:: .row [.int .i64 (iR 1 x).length] 3:: .dead::Z) ?_ ?_ ?_
   .grind
   .simp(disch:=omega) only[go_sem,seval,List.length_append]
   .rw[hK];simp
  .rintro ae y r _ hF;exact hF.elim
  .rintro u ⟨rfl,hu⟩;exact kS (Sq _) (by rw[hK];simp) ⟨rfl,hu⟩
 .rintro Y hp;simp(disch:=omega) only[go_sem,seval];rw[hd,hp]
theorem lO.ex{p}(hs:lO p){x}(hx:x∈exprs p):fj x:=by
 rw[exprs]at hx;rcases List.mem_append.1 hx with hx|hx
 .obtain⟨r,hr,rfl⟩:=List.mem_map.1 hx;exact hs.xD r hr
 .rw[List.mem_singleton]at hx;subst hx;exact hs.change
theorem ak1(Γ B p h)(hB:B<=h.length)(hs:lO p)(cj:∀x∈exprs p,dT x<=1000)(ik:p.rules.length<=1000000):
  dq Tryz.prog Γ B 36 [iI p] h (fun v h'=>h'=h/\v= .tuple []/\ot p=true) fun u=>u=ma 201/\ot p=false:=by
 refine dq.drop ?_;refine AF (rs:=[]) 36 Tryz.func36 rfl rfl rfl rfl (by kernel_rfl) ?_;have c1:=fun h=>Sd Γ p h hs ik;have hd:ot p=((rM p.name&&uN p.bf&&uN p.kinds)&&(exprs p).all (de (kh p.bf))):=rfl;have ho:=hs.bf;rw[jj]at c1|-;have hS:Same B h (h++[.row [.str ⟨⟨p.name⟩⟩,.sl (bq p.kinds) .free,.sl (bq p.bf) .free,.sl (p.rules.map bY) .free,.int .i64 p.change.k,.int .i64 p.change.n,.int .i64 p.change.no,.str ⟨⟨p.change.name⟩⟩,.sl (p.change.l.map aK) .free,.int .i64 p.mode] 28]):= .app h _ hB;refine aU ?_;refine bu (dq.cv (Y2 Γ p.name _ hs.name)) ?_;cases h1:rM p.name<;>rw[h1]at hd<;>simp(disch:=omega) only[go_sem,seval]
 .refine ll Γ _ _ _ _ (by simp;omega) (fun e=>by cases e) (fun _=>?_);exact kS hS (by simp) ⟨rfl,by rw[hd];rfl⟩
 refine bu (dq.cv (Zs Γ p.bf _ hs.bf hs.RJ)) ?_;cases h2:uN p.bf<;>rw[h2]at hd<;>simp(disch:=omega) only[go_sem,seval]
 .refine ll Γ _ _ _ _ (by simp;omega) (fun e=>by cases e) (fun _=>?_);exact kS hS (by simp) ⟨rfl,by rw[hd];rfl⟩
 refine bu (dq.cv (Zs Γ p.kinds _ hs.kinds hs.RI)) ?_;refine ll Γ _ _ _ _ (by simp;omega) (fun h3=>?_) (fun h3=>?_);rotate_left
 .rw[h3]at hd;exact kS hS (by simp) ⟨rfl,by rw[hd];rfl⟩
 rw[h3]at hd;have hd:ot p=(exprs p).all (de (kh p.bf)):=hd;refine aU ?_;refine dq.cv (c1 _) ?_;simp(disch:=omega) only[go_sem,seval,List.length_map];have iD:(exprs p).length=p.rules.length+1:=by simp[exprs]
 refine D6 (B:=B) (β:=AH) (exprs p) [1,20,21,22] (fun ae _=>[(1,.ptr (some (h.length,0))),(20,.sl ((exprs p).map aK) .free),(21,.int .i64 (exprs p).length),(22,.int .i64 ae.length)]) (fun Y=>h++ .row [.str ⟨⟨p.name⟩⟩,.sl (bq p.kinds) .free,.sl (bq p.bf) .free,.sl (p.rules.map bY) .free,.int .i64 p.change.k,.int .i64 p.change.n,.int .i64 p.change.no,.str ⟨⟨p.change.name⟩⟩,.sl (p.change.l.map aK) .free,.int .i64 p.mode] 28::Y)
  (fun ae _ _=>ae.all (de (kh p.bf))=true) [] ?_ rfl rfl (by kernel_rfl) ?_ ?_
 .exact dL
 .rintro ae x r Y bT hp;have hlen:(exprs p).length=ae.length+1+r.length:=by rw[bT];simp;omega
  have e1:((exprs p).map aK)[ae.length]? =some (aK x):=by rw[bT];exact fZ ..
  have hx:x∈exprs p:=by rw[bT];simp
  simp(disch:=omega) only[go_sem,seval];refine aJ.pos (by omega) ?_;rw[tT,l_]at e1;simp(disch:=omega) only[go_sem,seval,e1];refine dq.cv ((JD Γ x 1 _).args (by rw[tT,l_];rfl)) ?_;simp(disch:=omega) only[go_sem,seval,rS];refine bu (ee.keep [1,20,21,22,27]) ?_;obtain⟨K,hK⟩:∃K:AH,K=h++ .row [.str ⟨⟨p.name⟩⟩,.sl (bq p.kinds) .free,.sl (bq p.bf) .free,.sl (p.rules.map bY) .free,.int .i64 p.change.k,.int .i64 p.change.n,.int .i64 p.change.no,.str ⟨⟨p.change.name⟩⟩,.sl (p.change.l.map aK) .free,.int .i64 p.mode] 28::(Y++[.row [.int .i64 x.k,.int .i64 x.n,.int .i64 x.no,.str ⟨⟨x.name⟩⟩,.sl (x.l.map aK) .free] 26]):=⟨_,rfl⟩;have lQ:h.length+(Y.length+1+1)=K.length:=by rw[hK];simp
  have Sq:∀l,Same B h (K++l):=fun l=>by rw[hK,List.append_assoc];exact .app h _ hB
  have hKp:∀l,(K++l)[h.length]? =some (.row [.str ⟨⟨p.name⟩⟩,.sl (bq p.kinds) .free,.sl (bq p.bf) .free,.sl (p.rules.map bY) .free,.int .i64 p.change.k,.int .i64 p.change.n,.int .i64 p.change.no,.str ⟨⟨p.change.name⟩⟩,.sl (p.change.l.map aK) .free,.int .i64 p.mode] 28):=fun l=>by rw[hK];simp
  rw[<-hK];have Sr:=Jk x;have ZH:dT x<=1000:=cj x hx;have uS:B<=K.length:=by rw[hK];simp;omega
  have bad:∀ae y r,iR 1 x=ae++y::r->kh p.bf y.1=false->ot p=false:=fun dn y r e hn=>by
   have:de (kh p.bf) x=false:=by rw[<-DX (kh p.bf) 1 x,e,List.all_append,List.all_cons,hn];simp
   grind
  refine ZG (B:=B) (X:=fun u=>u=ma 201/\ot p=false) x 1 K (fun ae=>ae.all (fun y=>kh p.bf y.1)=true) (fun _ _=>False) ?_ uS (hs.ex hx) (by omega) rfl ?_ ?_ ?_ ?_
  .simp(disch:=omega) only[go_sem,seval,rS]
  .rintro li iZ ae y r Z nT j1;rw[y5,l_];refine bu (Jx iZ Tryz.func36 (by simp) rfl rfl Ty.mixed (by kernel_rfl) (by kernel_rfl)) ?_;have iF:kh p.bf y.1=(!lg y.1||decide (0<=iK p.bf y.1.name)):=rfl;have tu:fk [.row [.int .i64 y.1.k,.int .i64 y.1.n,.int .i64 y.1.no,.str ⟨⟨y.1.name⟩⟩,.sl (y.1.l.map aK) .free,.int .i64 y.2] 126]:=fun ob ho st pe lj e=>by grind
   refine bu (dq.cv ((R_ Γ y.1 _).args (by rw[dM]))) ?_;cases hb:lg y.1<;>rw[hb]at iF<;>simp(disch:=omega) only[go_sem,seval]
   .refine ll Γ _ _ _ _ (by simp;omega) (fun h5=>?_) (fun h5=>by cases h5);refine aU ?_;grind
   .simp(disch:=omega) only[go_sem,seval,hKp];refine bu (dq.cv (R9 Γ p.bf y.1.name _ ho)) ?_;refine ll Γ _ _ _ _ (by simp;omega) (fun h5=>?_) (fun h5=>?_)
    .refine aU ?_;grind
    .exact kS (AM uS _ _) (by simp) ⟨rfl,bad ae y r nT (by rw[iF,h5];rfl)⟩
  .rintro j1 Z;rw[DX]at j1;refine aU ?_;refine bu (pq (B:=B) _ _ _ _ (by kernel_rfl)) ?_;refine cd (Y++ .row [.int .i64 x.k,.int .i64 x.n,.int .i64 x.no,.str ⟨⟨x.name⟩⟩,.sl (x.l.map aK) .free] 26:: .dead::Z) ?_ ?_ ?_
   .grind
   .simp(disch:=omega) only[go_sem,seval,List.length_append]
   .rw[hK];simp
  .rintro ae y r _ hF;exact hF.elim
  .rintro u ⟨rfl,hu⟩;exact kS (by simp_all) (by rw[hK];simp) ⟨rfl,hu⟩
 .rintro Y hp;simp(disch:=omega) only[go_sem,seval];rw[hd,hp]
theorem ak3(Γ x h)(hk:x.k=1)(hs:fj x):AC Γ 311 [aK x] h (.bool (iY x)):=by
 refine az.drop ?_;refine cS [.tmp 2] Tryz.func311 ?_;have hd:iY x=decide (x.n=0/\x.l.length=0):=by rw[iY,if_pos hk]
 rw[hd,dM];simp(disch:=omega) only[go_sem,seval];refine aJ.intro (fun h2=>?_) (fun h2=>?_)<;>simp(disch:=omega) only[go_sem,seval,List.length_map]
 .simp_all
 .rw[decide_eq_false (by omega)]
theorem ak4(Γ x h)(hk:x.k=2)(hs:fj x):AC Γ 312 [aK x] h (.bool (iY x)):=by
 refine az.drop ?_;refine cS [.tmp 2] Tryz.func312 ?_;have hd:iY x=decide (1<=x.n/\x.n<=4096/\x.l.length=0):=by rw[iY,if_neg (by omega),if_pos hk]
 rw[hd,dM];simp(disch:=omega) only[go_sem,seval];refine az.cv (D_ Γ _ _ _ _) ?_;obtain⟨b,hb⟩:∃b,b=decide ((1:Int)<=x.n/\x.n<=4096):=⟨_,rfl⟩;rw[<-hb];cases b<;>simp(disch:=omega) only[go_sem,seval,List.length_map]
 .grind
 simp_all
theorem ak5(Γ x h)(hk:x.k=3)(hs:fj x):AC Γ 313 [aK x] h (.bool (iY x)):=by
 have hl:x.l.length<=9223372036854775807:=by cases x;exact hs.len
 refine az.drop ?_;refine cS [.tmp 2] Tryz.func313 ?_;have hd:iY x=decide (x.name.length=0/\1<=x.l.length/\x.l.length<=16/\1<=x.n/\x.n<=x.l.length):=by rw[iY,if_neg (by omega),if_neg (by omega),if_pos hk]
 rw[hd,dM];generalize x.name=s at*;simp(disch:=omega) only[go_sem,seval,fK,nil_eq];cases s with
 |cons a t=>
  simp(disch:=omega) only[go_sem,seval,List.isEmpty_cons];simp
 |nil=>
 simp(disch:=omega) only[go_sem,seval,List.isEmpty_nil,List.length_map];refine az.cv (D_ Γ _ _ _ _) ?_;obtain⟨b,hb⟩:∃b,b=decide ((1:Int)<=x.l.length/\(x.l.length:Int)<=16):=⟨_,rfl⟩;rw[<-hb];cases b<;>simp(disch:=omega) only[go_sem,seval,List.length_map]
 .grind
 .have:=of_decide_eq_true hb.symm;refine bL (D_ Γ _ _ _ _) ?_;grind
theorem ak6(Γ x h)(hk:x.k=4)(hs:fj x):AC Γ 314 [aK x] h (.bool (iY x)):=by
 have hl:x.l.length<=9223372036854775807:=by cases x;exact hs.len
 refine az.drop ?_;refine cS [.tmp 2] Tryz.func314 ?_;have hd:iY x=decide (x.name.length=0/\x.l.length=2/\0<=x.n/\x.n<=1099511627776):=by rw[iY,if_neg (by omega),if_neg (by omega),if_neg (by omega),if_pos hk]
 rw[hd,dM];generalize x.name=s at*;simp(disch:=omega) only[go_sem,seval,fK,nil_eq];cases s with
 |cons a t=>
  simp(disch:=omega) only[go_sem,seval,List.isEmpty_cons];simp
 |nil=>
 simp(disch:=omega) only[go_sem,seval,List.isEmpty_nil,List.length_map];refine aJ.intro (fun h2=>?_) (fun h2=>?_)<;>simp(disch:=omega) only[go_sem,seval]
 .refine bL (D_ Γ _ _ _ _) ?_;grind
 .rw[decide_eq_false (by omega)]
def qD:List AV:=[310,311,312,313,314].map fun f=> .func f [] []
def y7:List Ex->Bool
 |[]=>true
 |x::r=>de (iC (!r.isEmpty)) x&&y7 r
theorem ak_(l:List Rl)(x):y7 (l.map Rl.x++[x])=(l.all (fun r=>de (iC true) r.x)&&de (iC false) x):=by
 induction l with
 |nil=>simp[y7]
 |cons r l ih=>
  rw[List.map_cons,List.cons_append,y7,ih,List.all_cons];have:(l.map Rl.x++[x]).isEmpty=false:=by cases l<;>rfl
  rw[this];simp[Bool.and_assoc]
theorem ala{x}(h:¬(1<=x.k/\x.k<=4)):iY x=false:=by rw[iY,if_neg (by omega),if_neg (by omega),if_neg (by omega),if_neg (by omega)]
mutual
theorem fj.part:∀{d:Nat} {x:Ex},fj x->∀{y:Ex×Nat},y∈iR d x->fj y.1
 |d,.mk k n no s l,h,y,hy=>by
  rw[iR]at hy;rcases List.mem_cons.1 hy with rfl|hy
  .exact h
  .exact ZO.part h.mem hy
theorem ZO.part:∀{d:Nat} {l:List Ex},(∀x∈l,fj x)->∀{y:Ex×Nat},y∈lM d l->fj y.1
 |d,[],_,y,hy=>by rw[lM]at hy;cases hy
 |d,x::r,h,y,hy=>by
  rw[lM]at hy;rcases List.mem_append.1 hy with hy|hy
  .exact fj.part (h x (by simp)) hy
  .exact ZO.part (fun z hz=>h z (by simp[hz])) hy
end
theorem aB8(A B:AH)(o n)(h:n=A.length):(A++o::B)[n]? =some o:=by subst h;simp
theorem alb(Γ)(gH:Γ 0=some qD)(B p h)(hB:B<=h.length)(hs:lO p)(cj:∀x∈exprs p,dT x<=1000)(ik:p.rules.length<=1000000):
  dq Tryz.prog Γ B 37 [iI p] h (fun v h'=>h'=h/\v= .tuple []/\ou p=true) fun u=>u=ma 200/\ou p=false:=by
 refine dq.drop ?_;refine AF (rs:=[]) 37 Tryz.func37 rfl rfl rfl rfl (by kernel_rfl) ?_;have c1:=fun h=>Sd Γ p h hs ik;have hr:=hs.rules;have hk:=hs.kinds;have Eg:∀σ,ev Γ σ (.global 0)= .bS qD:=fun σ=>by rw[ev,gH]
 have hd:ou p=(decide (0<p.kinds.length/\p.rules.length=p.kinds.length/\1<=p.mode/\p.mode<=4)&&l9 p.kinds p.rules&&p.rules.all (fun r=>de (iC true) r.x)&&de (iC false) p.change):=rfl;rw[jj]at c1|-;have hS:Same B h (h++[.row [.str ⟨⟨p.name⟩⟩,.sl (bq p.kinds) .free,.sl (bq p.bf) .free,.sl (p.rules.map bY) .free,.int .i64 p.change.k,.int .i64 p.change.n,.int .i64 p.change.no,.str ⟨⟨p.change.name⟩⟩,.sl (p.change.l.map aK) .free,.int .i64 p.mode] 28]):= .app h _ hB;simp(disch:=omega) only[go_sem,seval,kA];refine aJ.intro (fun h1=>?_) (fun h1=>?_)<;>simp(disch:=omega) only[go_sem,seval,kA,List.length_map];rotate_left
 .refine ll Γ _ _ _ _ (by simp;omega) (fun e=>by cases e) (fun _=>?_);exact kS hS (by simp) ⟨rfl,by grind⟩
 refine aJ.intro (fun h2=>?_) (fun h2=>?_)<;>simp(disch:=omega) only[go_sem,seval];rotate_left
 .refine ll Γ _ _ _ _ (by simp;omega) (fun e=>by cases e) (fun _=>?_);exact kS hS (by simp) ⟨rfl,by grind⟩
 refine bu (dq.cv (D_ Γ _ _ _ _)) ?_;refine ll Γ _ _ _ _ (by simp;omega) (fun h3=>?_) (fun h3=>?_);rotate_left
 .have h3:=of_decide_eq_false h3;exact kS hS (by simp) ⟨rfl,by grind⟩
 have h3:=of_decide_eq_true h3;rw[decide_eq_true (by omega),Bool.true_and]at hd;simp(disch:=omega) only[go_sem,seval,List.length_map];refine D6 (B:=B) (β:=AH) p.rules [1,28,29,30] (fun ae _=>[(1,.ptr (some (h.length,0))),(28,.sl (p.rules.map bY) .free),(29,.int .i64 p.rules.length),(30,.int .i64 ae.length)]) (fun j=>h++ .row [.str ⟨⟨p.name⟩⟩,.sl (bq p.kinds) .free,.sl (bq p.bf) .free,.sl (p.rules.map bY) .free,.int .i64 p.change.k,.int .i64 p.change.n,.int .i64 p.change.no,.str ⟨⟨p.change.name⟩⟩,.sl (p.change.l.map aK) .free,.int .i64 p.mode] 28::j) (fun ae _ _=>l9 (p.kinds.take ae.length) ae=true) [] ?_ rfl rfl (by kernel_rfl) ?_ ?_
 .exact dL
 .rintro ae x r j bT hp;have hlen:p.rules.length=ae.length+1+r.length:=by rw[bT];simp;omega
  have e1:(p.rules.map bY)[ae.length]? =some (bY x):=by rw[bT];exact fZ ..
  have hx:x∈p.rules:=by rw[bT];simp
  obtain⟨k,AA⟩:∃k,p.kinds[ae.length]? =some k:=⟨_,List.getElem?_eq_getElem (by omega)⟩;have e2:(bq p.kinds)[ae.length]? =some (.str ⟨⟨k⟩⟩):=by simp[bq,AA]
  have RK:p.kinds=p.kinds.take ae.length++k::p.kinds.drop (ae.length+1):=by
   have dN:ae.length<p.kinds.length:=by omega
   rw[List.getElem?_eq_getElem dN]at AA;cases AA;simp_all
  have oJ:(p.kinds.take ae.length).length=ae.length:=by rw[List.length_take];omega
  have Jo:l9 p.kinds p.rules=((x.kind==k)&&decide (0<=x.g_/\x.g_<=1099511627775)&&l9 (p.kinds.drop (ae.length+1)) r):=by conv=>lhs;rw[RK,bT,Jm k x _ _ _ _ oJ,hp,Bool.true_and]
  have jk:l9 (p.kinds.take (ae.length+1)) (ae++[x])=((x.kind==k)&&decide (0<=x.g_/\x.g_<=1099511627775)):=by rw[List.take_add_one,AA];have:=Jm k x (p.kinds.take ae.length) ae [] [] oJ;simp only[hp,YR,Bool.true_and,Bool.and_true]at this;exact this
  rw[rO]at e1;simp(disch:=omega) only[go_sem,seval];refine aJ.pos (by omega) ?_;simp(disch:=omega) only[go_sem,seval,e1];have Cr:Same B h (h++ .row [.str ⟨⟨p.name⟩⟩,.sl (bq p.kinds) .free,.sl (bq p.bf) .free,.sl (p.rules.map bY) .free,.int .i64 p.change.k,.int .i64 p.change.n,.int .i64 p.change.no,.str ⟨⟨p.change.name⟩⟩,.sl (p.change.l.map aK) .free,.int .i64 p.mode] 28::(j++[.row [.str ⟨⟨x.kind⟩⟩,.int .i64 x.lK,.int .i64 x.g_,.int .i64 x.x.k,.int .i64 x.x.n,.int .i64 x.x.no,.str ⟨⟨x.x.name⟩⟩,.sl (x.x.l.map aK) .free] 64])):= .app h _ hB;refine .of (ZN (B:=B) (c:=13) rfl rfl (by kernel_rfl) Ty.mixed (by kernel_rfl) (by kernel_rfl) ?_ ?_)
  .unfold mm;exact dL
  .simp only[List.take_succ_cons,List.take_zero];simp(disch:=omega) only[go_sem,seval,e2,fK];cases Gf:(x.kind==k)<;>rw[Gf]at Jo jk<;>simp(disch:=omega) only[go_sem,seval]
   .refine ll Γ _ _ _ _ (by simp;omega) (fun e=>by cases e) (fun _=>?_);exact kS Cr (by simp) ⟨rfl,by rw[hd,Jo];rfl⟩
   refine bu (gY.intro (fun _=>D_ Γ _ _ _ _)) ?_;refine ll Γ _ _ _ _ (by simp;omega) (fun h4=>?_) (fun h4=>?_);rotate_left
   .have h4:=of_decide_eq_false h4;exact kS Cr (by simp) ⟨rfl,by grind⟩
   have h4:=of_decide_eq_true h4;refine aU ?_;refine cd (j++[.row [.str ⟨⟨x.kind⟩⟩,.int .i64 x.lK,.int .i64 x.g_,.int .i64 x.x.k,.int .i64 x.x.n,.int .i64 x.x.no,.str ⟨⟨x.x.name⟩⟩,.sl (x.x.l.map aK) .free] 64]) ?_ ?_ ?_
   .grind
   .simp(disch:=omega) only[go_sem,seval,List.length_append]
   .simp
 .rintro j hp;rw[List.take_of_length_le (by omega)]at hp;rw[hp,Bool.true_and,<-ak_]at hd;have hd:ou p=y7 (exprs p):=hd;simp(disch:=omega) only[go_sem,seval];refine ee.keep [1] ?_;refine bu (pq (B:=B) _ _ _ _ (by kernel_rfl)) ?_;refine dq.cv (c1 _) ?_;simp(disch:=omega) only[go_sem,seval,List.length_map];have iD:(exprs p).length=p.rules.length+1:=by simp[exprs]
  refine D6 (B:=B) (β:=AH) (exprs p) [4,52,53,54] (fun ae _=>[(4,.ptr (some (h.length+(j.length+1),0))),(52,.sl ((exprs p).map aK) .free),(53,.int .i64 (exprs p).length),(54,.int .i64 ae.length)]) (fun Y=>h++ .row [.str ⟨⟨p.name⟩⟩,.sl (bq p.kinds) .free,.sl (bq p.bf) .free,.sl (p.rules.map bY) .free,.int .i64 p.change.k,.int .i64 p.change.n,.int .i64 p.change.no,.str ⟨⟨p.change.name⟩⟩,.sl (p.change.l.map aK) .free,.int .i64 p.mode] 28::(j++ .row [.sl ((exprs p).map aK) .free] 24::Y))
   (fun _ rest _=>y7 (exprs p)=y7 rest) [] ?_ rfl rfl (by kernel_rfl) ?_ ?_
  .exact dL
  .rintro ae x r Y bT hp;have hlen:(exprs p).length=ae.length+1+r.length:=by rw[bT];simp;omega
   have e1:((exprs p).map aK)[ae.length]? =some (aK x):=by rw[bT];exact fZ ..
   have hx:x∈exprs p:=by rw[bT];simp
   simp(disch:=omega) only[go_sem,seval];refine aJ.pos (by omega) ?_;rw[tT,l_]at e1;simp(disch:=omega) only[go_sem,seval,e1];refine dq.cv ((JD Γ x 1 _).args (by rw[tT,l_];rfl)) ?_;simp(disch:=omega) only[go_sem,seval,rS];refine bu (ee.keep [4,5,52,53,54,60]) ?_;obtain⟨K,hK⟩:∃K:AH,K=h++ .row [.str ⟨⟨p.name⟩⟩,.sl (bq p.kinds) .free,.sl (bq p.bf) .free,.sl (p.rules.map bY) .free,.int .i64 p.change.k,.int .i64 p.change.n,.int .i64 p.change.no,.str ⟨⟨p.change.name⟩⟩,.sl (p.change.l.map aK) .free,.int .i64 p.mode] 28::(j++ .row [.sl ((exprs p).map aK) .free] 24::(Y++[.row [.int .i64 ae.length] 3,.row [.int .i64 x.k,.int .i64 x.n,.int .i64 x.no,.str ⟨⟨x.name⟩⟩,.sl (x.l.map aK) .free] 26])):=⟨_,rfl⟩;have Sq:∀l,Same B h (K++l):=fun l=>by rw[hK,List.append_assoc];exact .app h _ hB
   have Cq:∀l,(K++l)[h.length+(j.length+1)]? =some (.row [.sl ((exprs p).map aK) .free] 24):=fun l=>by simp_all
   have NC:∀l,(K++l)[h.length+(j.length+(Y.length+1)+1)]? =some (.row [.int .i64 ae.length] 3):=fun l=>by simp_all
   have Sr:=Jk x;have ZH:dT x<=1000:=cj x hx;have uS:B<=K.length:=by rw[hK];simp;omega
   have JF:y7 (exprs p)=(de (iC (!r.isEmpty)) x&&y7 r):=by rw[hp,y7]
   have bad:∀dn y r',iR 1 x=dn++y::r'->iC (!r.isEmpty) y.1=false->ou p=false:=fun dn y r' e hn=>by
    have:de (iC (!r.isEmpty)) x=false:=by rw[<-DX (iC (!r.isEmpty)) 1 x,e,List.all_append,List.all_cons,hn];simp
    rw[hd,JF,this];rfl
   rw[<-hK];refine ZG (B:=B) (X:=fun u=>u=ma 200/\ou p=false) x 1 K (fun dn=>dn.all (fun y=>iC (!r.isEmpty) y.1)=true) (fun _ _=>False) ?_ uS (hs.ex hx) (by omega) rfl ?_ ?_ ?_ ?_
   .simp(disch:=omega) only[go_sem,seval,rS]
   .rintro li iZ dn y r' Z nT j1;rw[y5,l_];refine bu (Jx iZ Tryz.func37 (by simp) rfl rfl Ty.mixed (by kernel_rfl) (by kernel_rfl)) ?_;refine .of (ZN (B:=B) (c:=14) rfl rfl (by kernel_rfl) Ty.mixed (by kernel_rfl) (by kernel_rfl) ?_ ?_)
    .unfold mm;exact dL
    simp only[List.take_succ_cons,List.take_zero];simp(disch:=omega) only[go_sem,seval];refine gY.intro (fun _=>D_ Γ _ _ _ _) ?_;by_cases Sz:1<=y.1.k/\y.1.k<=4;rotate_left
    .rw[decide_eq_false Sz];refine aU ?_;refine ll Γ _ _ _ _ (by simp;omega) (fun e=>by cases e) (fun _=>?_);exact kS (AM uS _ _) (by simp) ⟨rfl,bad dn y r' nT (by rw[iC,ala Sz];rfl)⟩
    rw[decide_eq_true Sz];simp(disch:=omega) only[go_sem,seval,Eg];have hz:=hs.ex hx;have ND:fj y.1:=fj.part (d:=1) hz (by rw[nT];simp);refine⟨by omega,by omega,?_⟩;have tu:fk [.row [.int .i64 y.1.k,.int .i64 y.1.n,.int .i64 y.1.no,.str ⟨⟨y.1.name⟩⟩,.sl (y.1.l.map aK) .free,.int .i64 y.2] 126]:=fun ob ho st pe lj e=>by grind
    obtain e|e|e|e:y.1.k=1\/y.1.k=2\/y.1.k=3\/y.1.k=4:=by omega
    .have c3:=fun h=>ak3 Γ y.1 h e ND;have mS:iC (!r.isEmpty) y.1=(iY y.1&&(!r.isEmpty||!(y.1.k==4))):=rfl;rw[dM,e]at c3;rw[e]at mS|-;simp(disch:=omega) only[go_sem,seval,qD];refine bu (gY.intro (fun _=>c3 _)) ?_;refine ll Γ _ _ _ _ (by simp;omega) (fun h5=>?_) (fun h5=>?_);rotate_left
     .exact kS (AM uS _ _) (by simp) ⟨rfl,bad dn y r' nT (by rw[mS,h5];rfl)⟩
     rw[h5]at mS;simp(disch:=omega) only[go_sem,seval,Cq,NC,List.length_map];have SA:fk [.row [.int .i64 1,.int .i64 y.1.n,.int .i64 y.1.no,.str ⟨⟨y.1.name⟩⟩,.sl (y.1.l.map aK) .free,.int .i64 y.2] 126]:=fun ob ho st pe lj e=>by grind
     refine aJ.intro (fun h6=>?_) (fun h6=>?_)<;>simp(disch:=omega) only[go_sem,seval]
     .have h7:r.isEmpty=false:=by grind
      rw[h7]at mS;refine ll Γ _ _ _ _ (by simp;omega) (fun _=>?_) (fun e=>by cases e);refine aU ?_;grind
     .have h7:r.isEmpty=true:=by cases r with|nil=>rfl|cons _ _=>simp at hlen;omega
      rw[h7]at mS;refine ll Γ _ _ _ _ (by simp;omega) (fun _=>?_) (fun e=>by cases e);refine aU ?_;grind
    .have c3:=fun h=>ak4 Γ y.1 h e ND;have mS:iC (!r.isEmpty) y.1=(iY y.1&&(!r.isEmpty||!(y.1.k==4))):=rfl;rw[dM,e]at c3;rw[e]at mS|-;simp(disch:=omega) only[go_sem,seval,qD];refine bu (gY.intro (fun _=>c3 _)) ?_;refine ll Γ _ _ _ _ (by simp;omega) (fun h5=>?_) (fun h5=>?_);rotate_left
     .exact kS (AM uS _ _) (by simp) ⟨rfl,bad dn y r' nT (by rw[mS,h5];rfl)⟩
     rw[h5]at mS;simp(disch:=omega) only[go_sem,seval,Cq,NC,List.length_map];have SA:fk [.row [.int .i64 2,.int .i64 y.1.n,.int .i64 y.1.no,.str ⟨⟨y.1.name⟩⟩,.sl (y.1.l.map aK) .free,.int .i64 y.2] 126]:=fun ob ho st pe lj e=>by grind
     refine aJ.intro (fun h6=>?_) (fun h6=>?_)<;>simp(disch:=omega) only[go_sem,seval]
     .have h7:r.isEmpty=false:=by grind
      rw[h7]at mS;refine ll Γ _ _ _ _ (by simp;omega) (fun _=>?_) (fun e=>by cases e);refine aU ?_;grind
     .have h7:r.isEmpty=true:=by cases r with|nil=>rfl|cons _ _=>simp at hlen;omega
      rw[h7]at mS;refine ll Γ _ _ _ _ (by simp;omega) (fun _=>?_) (fun e=>by cases e);refine aU ?_;grind
    .have c3:=fun h=>ak5 Γ y.1 h e ND;have mS:iC (!r.isEmpty) y.1=(iY y.1&&(!r.isEmpty||!(y.1.k==4))):=rfl;rw[dM,e]at c3;rw[e]at mS|-;simp(disch:=omega) only[go_sem,seval,qD];refine bu (gY.intro (fun _=>c3 _)) ?_;refine ll Γ _ _ _ _ (by simp;omega) (fun h5=>?_) (fun h5=>?_);rotate_left
     .exact kS (AM uS _ _) (by simp) ⟨rfl,bad dn y r' nT (by rw[mS,h5];rfl)⟩
     rw[h5]at mS;simp(disch:=omega) only[go_sem,seval,Cq,NC,List.length_map];have SA:fk [.row [.int .i64 3,.int .i64 y.1.n,.int .i64 y.1.no,.str ⟨⟨y.1.name⟩⟩,.sl (y.1.l.map aK) .free,.int .i64 y.2] 126]:=fun ob ho st pe lj e=>by grind
     refine aJ.intro (fun h6=>?_) (fun h6=>?_)<;>simp(disch:=omega) only[go_sem,seval]
     .have h7:r.isEmpty=false:=by grind
      rw[h7]at mS;refine ll Γ _ _ _ _ (by simp;omega) (fun _=>?_) (fun e=>by cases e);refine aU ?_;grind
     .have h7:r.isEmpty=true:=by cases r with|nil=>rfl|cons _ _=>simp at hlen;omega
      rw[h7]at mS;refine ll Γ _ _ _ _ (by simp;omega) (fun _=>?_) (fun e=>by cases e);refine aU ?_;grind
    .have c3:=fun h=>ak6 Γ y.1 h e ND;have mS:iC (!r.isEmpty) y.1=(iY y.1&&(!r.isEmpty||!(y.1.k==4))):=rfl;rw[dM,e]at c3;rw[e]at mS|-;simp(disch:=omega) only[go_sem,seval,qD];refine bu (gY.intro (fun _=>c3 _)) ?_;refine ll Γ _ _ _ _ (by simp;omega) (fun h5=>?_) (fun h5=>?_);rotate_left
     .exact kS (AM uS _ _) (by simp) ⟨rfl,bad dn y r' nT (by rw[mS,h5];rfl)⟩
     rw[h5]at mS;simp(disch:=omega) only[go_sem,seval,Cq,NC,List.length_map];have SA:fk [.row [.int .i64 4,.int .i64 y.1.n,.int .i64 y.1.no,.str ⟨⟨y.1.name⟩⟩,.sl (y.1.l.map aK) .free,.int .i64 y.2] 126]:=fun ob ho st pe lj e=>by grind
     refine aJ.intro (fun h6=>?_) (fun h6=>?_)<;>simp(disch:=omega) only[go_sem,seval]
     .have h7:r.isEmpty=false:=by grind
      rw[h7]at mS;refine ll Γ _ _ _ _ (by simp;omega) (fun _=>?_) (fun e=>by cases e);refine aU ?_;grind
     .have h7:r.isEmpty=true:=by cases r with|nil=>rfl|cons _ _=>simp at hlen;omega
      rw[h7]at mS;refine ll Γ _ _ _ _ (by simp;omega) (fun e=>by cases e) (fun _=>?_);exact kS (AM uS _ _) (by simp) ⟨rfl,bad dn y r' nT (by rw[h7,mS];rfl)⟩
   .rintro j1 Z;rw[DX]at j1;refine aU ?_;refine bu (pq (B:=B) _ _ _ _ (by kernel_rfl)) ?_;refine cd (Y++ .row [.int .i64 ae.length] 3:: .row [.int .i64 x.k,.int .i64 x.n,.int .i64 x.no,.str ⟨⟨x.name⟩⟩,.sl (x.l.map aK) .free] 26:: .dead::Z) ?_ ?_ ?_
    .rw[JF,j1];rfl
    .simp(disch:=omega) only[go_sem,seval,List.length_append]
    .rw[hK];simp
   .rintro dn y r' _ hF;exact hF.elim
   .rintro u ⟨rfl,hu⟩;exact kS (by simp_all) (by rw[hK];simp) ⟨rfl,hu⟩
  .rintro Y hp;simp(disch:=omega) only[go_sem,seval];rw[hd,hp];rfl
def oT(o:List Tx)(h:AH)(k n w:Int)(s:Tx)(dn:List Ex)(own:aS.Own):AH:=h++[.row [.int .i64 k,.int .i64 n,.int .i64 w,.str ⟨⟨s⟩⟩,.sl (dn.map fun y=>aK (dB o y)) own] 26,.row [.int .i64 0,.int .i64 0,.int .i64 0,.str ⟨#[]⟩,.sl [] .full] 26]
theorem SB(Γ:GG)(o:List Tx)(ho:o.length<=9223372036854775807):∀(m:Nat) (x:Ex) (h:AH),SizeOf.sizeOf x<m->fj x->dT x<=1000000->AC Γ 38 [.sl (bq o) .free,aK x] h (aK (dB o x))
 |0,_,_,hk,_,_=>absurd hk (Nat.not_lt_zero _)
 |m+1,.mk k n no s l,h,cj,hs,sO=>by
  refine az.ji ?_;refine cS [.cell 4 26] Tryz.func38 ?_;simp only[mu,RL];refine aU ?_;have nN:=hs.len;rw[dT]at sO;have wa:mv o (.mk k n no s l)=if lg (.mk k n 0 s l)=true then iK o s else 0:=rfl
  have c1:=fun h=>R_ Γ (.mk k n 0 s l) h;rw[mu]at c1;refine az.cv (c1 _) ?_;cases hb:lg (.mk k n 0 s l)
  .rw[hb]at wa;have wa:mv o (.mk k n no s l)=0:=wa;rw[wa];refine aU ?_;refine d_ (β:=List Ex×aS.Own×AH) l [0,3,4,19,20,21] (fun ae _=>[(0,.sl (bq o) .free),(3,.ptr (some (h.length,0))),(4,.ptr (some (h.length+1,0))),(19,.sl (l.map aK) .free),(20,.int .i64 l.length),(21,.int .i64 ae.length)]) (fun b=>oT o h k n 0 s b.1 b.2.1++b.2.2) (fun ae _ b=>b.1=ae/\fX (oT o h k n 0 s b.1 b.2.1) b.2.2 ae.length b.2.1) ([],.full,[]) ?_ (by simp[oT]) ⟨rfl,trivial⟩ ?_ ?_
   .simp(disch:=omega) only[go_sem,seval,List.length_nil]
   .rintro ae x r ⟨dn,own,X⟩ bT ⟨rfl,cP⟩;simp only at cP|-;have hlen:l.length=dn.length+1+r.length:=by rw[bT];simp;omega
    have e1:(l.map aK)[dn.length]? =some (aK x):=by rw[bT];exact fZ ..
    have hx:x∈l:=by rw[bT];simp
    have hb:=Ck hx;have qz:=FZ l;have c4:=fun h=>SB Γ o ho m x h (pX hx cj) (hs.mem x hx) (by omega);have Ea:=dM x;rw[Ea]at e1 c4;simp(disch:=omega) only[go_sem,seval,oT];refine aJ.pos (by omega) ?_;simp(disch:=omega) only[go_sem,seval,e1];refine gY.intro (fun _=>c4 _) ?_;simp(disch:=omega) only[go_sem,seval];have eh:∀dn own X,h++ .row [.int .i64 k,.int .i64 n,.int .i64 0,.str ⟨⟨s⟩⟩,.sl (dn.map fun y=>aK (dB o y)) own] 26:: .row [.int .i64 0,.int .i64 0,.int .i64 0,.str ⟨#[]⟩,.sl [] .full] 26::X=oT o h k n 0 s dn own++X:=fun dn own X=>by simp[oT]
    rw[eh];refine pV (by rw[List.length_map];exact cP.app _) (Jp o _) (pY [dB o x]) (by simp;omega) (by simp;omega) fun j' eY iG hg=>?_;rw[oT];refine aU ?_;refine cd (dn++[x],eY,j') ⟨rfl,?_⟩ ?_ ?_
    .refine fX.len (K:=oT o h k n 0 s dn own) ?_ (by simp[oT]);simpa using iG
    .simp(disch:=omega) only[go_sem,seval,List.length_append]
    .simp
   .rintro⟨dn,own,X⟩ ⟨rfl,cP⟩;simp only at cP|-;simp(disch:=omega) only[go_sem,seval,oT];refine jL [3,4] ?_;simp(disch:=omega) only[go_sem,seval];rw[show dn.map (fun y=>aK (dB o y))=(dn.map (dB o)).map aK from by rw[List.map_map];rfl,xC];exact⟨uM _ _▸trivial,rfl⟩
  .rw[hb]at wa;have wa:mv o (.mk k n no s l)=iK o s:=wa;rw[wa];refine aU ?_;refine bL (Nu Γ o s _ ho) ?_;refine d_ (β:=List Ex×aS.Own×AH) l [0,3,4,19,20,21] (fun ae _=>[(0,.sl (bq o) .free),(3,.ptr (some (h.length,0))),(4,.ptr (some (h.length+1,0))),(19,.sl (l.map aK) .free),(20,.int .i64 l.length),(21,.int .i64 ae.length)]) (fun b=>oT o h k n (iK o s) s b.1 b.2.1++b.2.2) (fun ae _ b=>b.1=ae/\fX (oT o h k n (iK o s) s b.1 b.2.1) b.2.2 ae.length b.2.1) ([],.full,[]) ?_ (by simp[oT]) ⟨rfl,trivial⟩ ?_ ?_
   .simp(disch:=omega) only[go_sem,seval,List.length_nil]
   .rintro ae x r ⟨dn,own,X⟩ bT ⟨rfl,cP⟩;simp only at cP|-;have hlen:l.length=dn.length+1+r.length:=by rw[bT];simp;omega
    have e1:(l.map aK)[dn.length]? =some (aK x):=by rw[bT];exact fZ ..
    have hx:x∈l:=by rw[bT];simp
    have hb:=Ck hx;have qz:=FZ l;have c4:=fun h=>SB Γ o ho m x h (pX hx cj) (hs.mem x hx) (by omega);have Ea:=dM x;rw[Ea]at e1 c4;simp(disch:=omega) only[go_sem,seval,oT];refine aJ.pos (by omega) ?_;simp(disch:=omega) only[go_sem,seval,e1];refine gY.intro (fun _=>c4 _) ?_;simp(disch:=omega) only[go_sem,seval];have eh:∀dn own X,h++ .row [.int .i64 k,.int .i64 n,.int .i64 (iK o s),.str ⟨⟨s⟩⟩,.sl (dn.map fun y=>aK (dB o y)) own] 26:: .row [.int .i64 0,.int .i64 0,.int .i64 0,.str ⟨#[]⟩,.sl [] .full] 26::X=oT o h k n (iK o s) s dn own++X:=fun dn own X=>by simp[oT]
    rw[eh];refine pV (by rw[List.length_map];exact cP.app _) (Jp o _) (pY [dB o x]) (by simp;omega) (by simp;omega) fun j' eY iG hg=>?_;rw[oT];refine aU ?_;refine cd (dn++[x],eY,j') ⟨rfl,?_⟩ ?_ ?_
    .refine fX.len (K:=oT o h k n (iK o s) s dn own) ?_ (by simp[oT]);simpa using iG
    .simp(disch:=omega) only[go_sem,seval,List.length_append]
    .simp
   .rintro⟨dn,own,X⟩ ⟨rfl,cP⟩;simp only at cP|-;simp(disch:=omega) only[go_sem,seval,oT];refine jL [3,4] ?_;simp(disch:=omega) only[go_sem,seval];rw[show dn.map (fun y=>aK (dB o y))=(dn.map (dB o)).map aK from by rw[List.map_map];rfl,xC];exact⟨uM _ _▸trivial,rfl⟩
theorem alc(Γ)(o:List Tx)(x h)(ho:o.length<=9223372036854775807)(hs:fj x)(hl:dT x<=1000000):AC Γ 38 [.sl (bq o) .free,aK x] h (aK (dB o x)):=
 SB Γ o ho _ x h (Nat.lt_succ_self _) hs hl
theorem lR{P Γ g l h p R R'}(H:nR P Γ g l h p R)(hR:∀h,R h->R' h):nR P Γ g l h p R':=
 ⟨H.1,fun G w vs hI hv=>CallsDIn.mono (H.2 G w vs hI hv) fun e u' w' hr=>by grind⟩
theorem Cs{h l k}(e:k=h.length+l.length):jO k (h++l)=h++l:=by have:=Y8 (h++l);rwa [List.length_append,<-e]at this
theorem ald(Γ i h):nR Tryz.prog Γ 96 [.ptr (some (i,0))] h none fun h'=>h'=h:=by refine F9 none (fun q e=>by cases e) Tryz.func96 rfl rfl rfl rfl rfl Ty.mixed (by kernel_rfl) (by kernel_rfl) ?_;rw[xK];exact dL
theorem ale(Γ i x e h)(hi:h[i]? =some (.row [x] 31)):nR Tryz.prog Γ 96 [.ptr (some (i,0))] h (some (ma e)) fun h'=>∃l,h'=h.set i (.row [.int .i64 e] 31)++l:=by refine F9 (some (rR e,ma e)) (fun q eq=>by cases eq;exact y4 e) Tryz.func96 rfl rfl rfl rfl rfl Ty.mixed (by kernel_rfl) (by kernel_rfl) ?_;rw[xK,rR];simp(disch:=omega) only[go_sem,seval];rw[List.getElem?_append_left (List.getElem?_eq_some_iff.1 hi).1,hi];refine aU ?_;exact⟨_,List.set_append_left _ _ (List.getElem?_eq_some_iff.1 hi).1⟩
theorem alf(Γ)(gH:Γ 0=some qD)(B p i h)(hB:B<=h.length)(hs:lO p)(cj:∀x∈exprs p,dT x<=1000)(ik:p.rules.length<=1000000)(hi:h[i]? =some (.row (DT p) 28)):
  dq Tryz.prog Γ B 34 [.ptr (some (i,0))] h (fun v h'=>h'=h/\v= .tuple []/\fi p=0) fun u=>u=ma (fi p)/\fi p≠0:=by
 refine AF (rs:=[]) 34 Tryz.func34 rfl rfl rfl rfl (by kernel_rfl) ?_;have hd:fi p=if nM p=false then 2 else if ot p=false then 201 else if ou p=false then 200 else 0:=rfl
 have c1:=fun h hB=>akZ Γ B p h hB hs cj;have c2:=fun h hB=>ak1 Γ B p h hB hs cj ik;have c3:=fun h hB=>alb Γ gH B p h hB hs cj ik;have he:DT p=[.str ⟨⟨p.name⟩⟩,.sl (bq p.kinds) .free,.sl (bq p.bf) .free,.sl (p.rules.map bY) .free,.int .i64 p.change.k,.int .i64 p.change.n,.int .i64 p.change.no,.str ⟨⟨p.change.name⟩⟩,.sl (p.change.l.map aK) .free,.int .i64 p.mode]:=by have:=jj p;rw[iI]at this;exact AV.agg.inj this
 rw[jj]at c1 c2 c3;rw[he]at hi;simp(disch:=omega) only[go_sem,seval,hi];refine(c1 h hB).mono (fun v h' ⟨e1,e2,e3⟩=>?_) (fun u ⟨hu,hz⟩=>?_);rotate_left
 .rw[hu];have dr:fi p=2:=by rw[hd,hz];rfl
  exact kS (Same.refl _ _) (Nat.le_refl _) ⟨by rw[dr],by rw[dr];decide⟩
 subst e1 e2;rw[e3]at hd;simp(disch:=omega) only[go_sem,seval,hi];refine(c2 _ hB).mono (fun v h' ⟨e1,e2,e4⟩=>?_) (fun u ⟨hu,hz⟩=>?_);rotate_left
 .rw[hu];have dr:fi p=201:=by rw[hd,hz];rfl
  exact kS (Same.refl _ _) (Nat.le_refl _) ⟨by rw[dr],by rw[dr];decide⟩
 subst e1 e2;rw[e4]at hd;simp(disch:=omega) only[go_sem,seval,hi];refine(c3 _ hB).mono (fun v h' ⟨e1,e2,e5⟩=>?_) (fun u ⟨hu,hz⟩=>?_);rotate_left
 .rw[hu];have dr:fi p=200:=by rw[hd,hz];rfl
  exact kS (Same.refl _ _) (Nat.le_refl _) ⟨by rw[dr],by rw[dr];decide⟩
 subst e1 e2;rw[e5]at hd;refine aU ?_;rw[hd];rfl
theorem alg(Γ)(gH:Γ 0=some qD)(p i h)(hs:lO p)(cj:∀x∈exprs p,dT x<=1000)(ik:p.rules.length<=1000000)(hi:h[i]? =some (.row (DT p) 28)):
  AC Γ 33 [.func 34 [] [.ptr (some (i,0))]] h (.int .i64 (fi p)):=by
 have lF:i<h.length:=(List.getElem?_eq_some_iff.1 hi).1;refine az.drop ?_;refine bu (D8 (rs:=[.cell 2 31]) (h.length+1) 33 Tryz.func33 rfl rfl rfl rfl (by kernel_rfl) (by kernel_rfl) (by kernel_rfl)) ?_;refine(alf Γ gH _ p i _ (by simp) hs cj ik (by grind)).mono (fun v h' ⟨e1,e2,e3⟩=>?_) (fun u ⟨hu,hz⟩=>?_)
 .subst e1 e2;refine aU ?_;refine lR (ald Γ _ _) ?_;rintro _ rfl;refine aU ?_;rw[e3]
 .rw[hu];refine aU ?_;rw[Cs (by simp)];refine D9 (rR (fi p)) (y4 (fi p)) (lR (ale Γ _ _ _ _ (by simp;rfl)) ?_);rintro _ ⟨l,rfl⟩;exact dL
def y8(h:AH)(p:iq)(dn:List Rl)(own:aS.Own):AH:=h++[.row [.str ⟨⟨p.name⟩⟩,.sl (bq p.kinds) .free,.sl (bq p.bf) .free,.sl (p.rules.map bY) .free,.int .i64 p.change.k,.int .i64 p.change.n,.int .i64 p.change.no,.str ⟨⟨p.change.name⟩⟩,.sl (p.change.l.map aK) .free,.int .i64 p.mode] 28,.row [.str ⟨⟨p.name⟩⟩,.sl (bq p.kinds) .free,.sl (bq p.bf) .free,.sl ((kB p.bf 0 dn).map bY) own,.int .i64 p.change.k,.int .i64 p.change.n,.int .i64 p.change.no,.str ⟨⟨p.change.name⟩⟩,.sl (p.change.l.map aK) .free,.int .i64 p.mode] 28]
theorem SC(Γ)(gH:Γ 0=some qD)(p h)(hs:lO p)(cj:∀x∈exprs p,dT x<=1000)(ik:p.rules.length<=1000000):
  az Tryz.prog Γ 12 [iI p] h fun v h'=>h'=h/\∃q,v= .tuple [iI q,.int .i64 (fi p)]/\(fi p=0->q=sN p):=by
 refine az.ji ?_;refine cS [.cell 2 28,.tmp 3] Tryz.func12 ?_;have Eh:DT p=[.str ⟨⟨p.name⟩⟩,.sl (bq p.kinds) .free,.sl (bq p.bf) .free,.sl (p.rules.map bY) .free,.int .i64 p.change.k,.int .i64 p.change.n,.int .i64 p.change.no,.str ⟨⟨p.change.name⟩⟩,.sl (p.change.l.map aK) .free,.int .i64 p.mode]:=by have:=jj p;rw[iI]at this;exact AV.agg.inj this
 rw[jj];refine aU ?_;refine bL (alg Γ gH p _ _ hs cj ik (by rw[Eh];simp)) ?_;refine aJ.intro (fun h1=>?_) (fun h1=>?_)<;>simp(disch:=omega) only[go_sem,seval];rotate_left
 .exact⟨⟨[],[],[],[],.mk 0 0 0 [] [],0⟩,rfl,fun e=>absurd e h1⟩
 have hr:=hs.rules;have c5:=fun x h hx hl=>alc Γ p.bf x h hs.bf hx hl;refine d_ (β:=List Rl×aS.Own×AH) p.rules [1,2,3,15,16,17] (fun ae _=>[(1,.ptr (some (h.length,0))),(2,.ptr (some (h.length+1,0))),(3,.int .i64 (fi p)),(15,.sl (p.rules.map bY) .free),(16,.int .i64 p.rules.length),(17,.int .i64 ae.length)]) (fun b=>y8 h p b.1 b.2.1++b.2.2) (fun ae _ b=>b.1=ae/\fX (y8 h p b.1 b.2.1) b.2.2 ae.length b.2.1) ([],.full,[]) ?_ (by simp[y8,kB]) ⟨rfl,trivial⟩ ?_ ?_
 .simp(disch:=omega) only[go_sem,seval,List.length_nil]
 .rintro ae x r ⟨dn,own,X⟩ bT ⟨rfl,cP⟩;simp only at cP|-;have hlen:p.rules.length=dn.length+1+r.length:=by rw[bT];simp;omega
  have e1:(p.rules.map bY)[dn.length]? =some (bY x):=by rw[bT];exact fZ ..
  have hx:x∈p.rules:=by rw[bT];simp
  have c6:=fun h=>c5 x.x h (hs.xD x hx) (by have:=cj x.x (List.mem_append_left _ (List.mem_map.2 ⟨x,hx,rfl⟩));omega);rw[dM x.x,dM (dB p.bf x.x)]at c6;rw[rO]at e1;simp(disch:=omega) only[go_sem,seval,y8];refine aJ.pos (by omega) ?_;simp(disch:=omega) only[go_sem,seval,e1];refine az.cv (c6 _) ?_;simp(disch:=omega) only[go_sem,seval];have eh:∀dn own X,h++ .row [.str ⟨⟨p.name⟩⟩,.sl (bq p.kinds) .free,.sl (bq p.bf) .free,.sl (p.rules.map bY) .free,.int .i64 p.change.k,.int .i64 p.change.n,.int .i64 p.change.no,.str ⟨⟨p.change.name⟩⟩,.sl (p.change.l.map aK) .free,.int .i64 p.mode] 28:: .row [.str ⟨⟨p.name⟩⟩,.sl (bq p.kinds) .free,.sl (bq p.bf) .free,.sl ((kB p.bf 0 dn).map bY) own,.int .i64 p.change.k,.int .i64 p.change.n,.int .i64 p.change.no,.str ⟨⟨p.change.name⟩⟩,.sl (p.change.l.map aK) .free,.int .i64 p.mode] 28::X=y8 h p dn own++X:=fun dn own X=>by simp[y8]
  rw[eh];have er:AV.agg [.str ⟨⟨x.kind⟩⟩,.int .i64 dn.length,.int .i64 x.g_,.int .i64 (dB p.bf x.x).k,.int .i64 (dB p.bf x.x).n,.int .i64 (dB p.bf x.x).no,.str ⟨⟨(dB p.bf x.x).name⟩⟩,.sl ((dB p.bf x.x).l.map aK) .free]=bY (uO p.bf dn.length x):=by rw[rO];rfl
  rw[er];have er2:(kB p.bf 0 dn).map bY++[bY (uO p.bf dn.length x)]=(kB p.bf 0 (dn++[x])).map bY:=by rw[Nf,Int.zero_add];simp[kB]
  refine pV (by rw[List.length_map,yZ];exact cP.app _) (FX _) (FX [uO p.bf dn.length x]) (by simp[yZ];omega) (by simp[yZ];omega) fun j' eY iG hg=>?_;rw[er2,y8];refine aU ?_;refine cd (dn++[x],eY,j') ⟨rfl,?_⟩ ?_ ?_
  .refine fX.len (K:=y8 h p dn own) ?_ (by simp[y8]);simpa [yZ]using iG
  .simp(disch:=omega) only[go_sem,seval,List.length_append]
  .simp
 .rintro⟨dn,own,X⟩ ⟨rfl,cP⟩;simp only at cP|-;simp(disch:=omega) only[go_sem,seval,y8];refine jL [1,2,3] ?_;simp(disch:=omega) only[go_sem,seval];have c7:=fun h=>c5 p.change h hs.change (by have:=cj p.change (List.mem_append_right _ (by simp));omega);rw[dM p.change,dM (dB p.bf p.change)]at c7;refine bL (c7 _) ?_;refine⟨sN p,?_,fun _=>rfl⟩;rw[jj (sN p),h1];rfl
section
variable {Γ:GG} {N B:Nat} {σ:Tm} {Q:Exit->Tm->AH->Prop} {f0:FuncId}
theorem ali{g ps assign body X}(x d K)(F:List (Ex×Nat)->AH)(Fs)(J:List (Ex×Nat)->Prop)(St:List (Ex×Nat)->Ex×Nat->Prop)
  (hg:ev Γ σ g=rS x d)(hB:B<=K.length)(hs:fj x)(hd:d+mQ x<=1000000)(c)(hF:∀ae,(F ae).length=c)(Gd:∀ae,fk (F ae))(Ct:Fs.length=c)(SD:fk Fs)(hJ:J [])
  (yl:∀li,li=⟨N,σ,ps,assign,body,some f0⟩->∀ae y r Y,iR d x=ae++y::r->J ae->uP Tryz.prog Γ B (K.length+c) [y5 y] (K++F ae++ .loop .ready none li::Y) (fun v h'=>(v= .bool true/\J (ae++[y])/\∃Z,fk Z/\h'=K++F (ae++[y])++ .loop .ready none li::(Y++Z))\/(v= .bool false/\St ae y/\∃Z,fk Z/\h'=K++Fs++ .loop .done (some .ret) li::(Y++Z))) X)
  (hN:J (iR d x)->∀Y,Q .normal σ (K++F (iR d x)++ .dead::Y))
  (hS:∀ae y r,iR d x=ae++y::r->St ae y->∀Y,bw Tryz.prog Γ N .ret Q σ (K++Fs++ .dead::Y))
  (hX:∀u,X u->Q (.panic (jN u)) σ (jO B (K++F []))):ee Tryz.prog Γ f0 N (.rangeFunc g ps assign body) Q σ (K++F []):=by
 refine R0 (B:=B) (X:=X) (hg.trans (by rw[rS])) (by simp;omega) (fun li iZ=>?_) hX;have hl:∀ae,(K++F ae).length=K.length+c:=fun ae=>by rw[List.length_append,hF]
 have pN:∀A:AH,A.length=c->∀o o' (Y:AH),(K++A++o::Y).set (K.length+c) o'=K++A++o'::Y:=fun A e o o' Y=>by simp_all
 have sC:∀A:AH,A.length=c->∀o (Y:AH),(K++A++o::Y)[K.length+c]? =some o:=fun A e o Y=>by grind
 have wO:∀A A' Y Y':AH,Same B (K++A++Y) (K++A'++Y'):=fun A A' Y Y' i hi=>by grind
 have split:∀A:AH,A.length=c->∀o (Y h':AH),nP (K.length+c+1) (K++A++o::Y) h'->∃Y',h'=K++A++o::Y':=fun A ea o Y h' hf=>by
  have e:K++A++o::Y=(K++A++[o])++Y:=by simp
  rw[e]at hf;have j7:(K++A++[o]).length=K.length+c+1:=by rw[List.length_append,List.length_append,ea];rfl
  rw[<-j7]at hf;obtain⟨Y',rfl,_⟩:=hf.split;exact⟨Y',by simp⟩
 have C:JE Γ B (K.length+c) (K.length+c+1) X (iR d x) (fun ae hq=>J ae/\∃Y,hq=K++F ae++ .loop .ready none li::Y) (fun hq=>∃ae y r Y,iR d x=ae++y::r/\St ae y/\hq=K++Fs++ .loop .done (some .ret) li::Y):=by
  refine⟨by omega,?_,?_,?_⟩
  .rintro ae h1 h2 ⟨j,Y,rfl⟩ hf;exact⟨j,split _ (hF _) _ _ _ hf⟩
  .rintro h1 h2 ⟨ae,y,r,Y,q1,q2,rfl⟩ hf;obtain⟨Y',rfl⟩:=split _ Ct _ _ _ hf;exact⟨ae,y,r,Y',q1,q2,rfl⟩
  .rintro ae y r h1 nT hb ⟨j,Y,rfl⟩;refine(yl li iZ ae y r Y nT j).mono ?_ (fun u hu=>hu);rintro v h2 (⟨rfl,q1,Z,q2,rfl⟩|⟨rfl,q1,Z,q2,rfl⟩)
   .refine⟨?_,wO _ _ _ _,.inl ⟨rfl,q1,_,rfl⟩⟩;have:=NA K (F ae) (F (ae++[y])) Y Z (.loop .ready none li) (by rw[hF,hF]) (Gd _) q2;rwa [hF]at this
   .refine⟨?_,wO _ _ _ _,.inr ⟨rfl,ae,y,r,_,nT,q1,rfl⟩⟩;have:=NA K (F ae) Fs Y Z (.loop .ready none li) (by rw[hF,Ct]) SD q2;rw[hF]at this;have:=this.Nk (s:= .done) (p:=some .ret) (li:=li) (Nat.lt_succ_self (K.length+c)) (sC (F ae) (hF _) _ Y);rwa [pN Fs Ct]at this
 rw[hl []];refine(ZD Γ B X x d (K.length+c) (K.length+c+1) _ _ (K++F []++[.loop .ready none li]) hs hd C (by simp[hF];omega) ⟨hJ,[],rfl⟩).mono ?_ (fun u hu=>hu);rintro v h3 ⟨q1,q2,q3⟩;rcases q3 with⟨j,Y,rfl⟩|⟨ae,y,r,Y,e1,e2,rfl⟩
 .rw[<-hl []]at*;refine Cm (li0:=li) (by rw[hl];exact sC _ (hF _) _ _) q1.cZ (by simp) ?_;rw[Cf,hl,pN _ (hF _)];exact hN j Y
 .rw[<-hl []]at*;refine Cm (li0:=li) (by rw[hl];exact sC _ Ct _ _) q1.cZ (by simp) ?_;rw[hl,pN _ Ct];exact hS ae y r e1 e2 Y
end
theorem alj(Γ)(o:List Tx)(x h)(ho:o.length<=9223372036854775807)(hs:fj x)(hl:dT x<=1000):
  AC Γ 24 [.sl (bq o) .free,aK x] h (.bool (jD o x)):=by
 refine az.drop ?_;refine dq.calm (B:=h.length) ?_;refine AF (rs:=[.cell 4 4]) 24 Tryz.func24 rfl rfl rfl rfl (by kernel_rfl) ?_;rw[tT,l_];refine aU ?_;refine dq.cv ((JD Γ x 1 _).args (by rw[tT,l_];rfl)) ?_;simp(disch:=omega) only[go_sem,seval,rS];refine bu (ee.keep [2,4,8]) ?_;have Sr:=Jk x;obtain⟨K,hK⟩:∃K:AH,K=h++[.row [.sl (bq o) .free] 22,.row [.int .i64 x.k,.int .i64 x.n,.int .i64 x.no,.str ⟨⟨x.name⟩⟩,.sl (x.l.map aK) .free] 26]:=⟨_,rfl⟩;have hKo:∀l,(K++l)[h.length]? =some (.row [.sl (bq o) .free] 22):=fun l=>by rw[hK];simp
 have eh:∀b:Bool,h++[.row [.sl (bq o) .free] 22,.row [.int .i64 x.k,.int .i64 x.n,.int .i64 x.no,.str ⟨⟨x.name⟩⟩,.sl (x.l.map aK) .free] 26,.row [.bool b] 4]=K++[.row [.bool b] 4]:=fun b=>by rw[hK];simp
 have lQ:h.length+2=K.length:=by rw[hK];simp
 rw[eh,lQ];have bad:∀dn y r',iR 1 x=dn++y::r'->(y.1.no==mv o y.1)=false->jD o x=false:=fun dn y r' e hn=>by rw[jD,<-DX (fun y=>y.no==mv o y) 1 x,e,List.all_append,List.all_cons,hn];simp
 refine ali (B:=h.length) (X:=fun _=>False) x 1 K (fun _=>[.row [.bool false] 4]) [.row [.bool false] 4] (fun dn=>dn.all (fun y=>y.1.no==mv o y.1)=true) (fun _ _=>jD o x=false) ?_ (by omega) hs (by omega) 1 (fun _=>rfl) (fun _ ob ho st pe lj e=>by grind) rfl (fun ob ho st pe lj e=>by grind) rfl ?_ ?_ ?_ (fun _ hu=>hu.elim)
 .simp(disch:=omega) only[go_sem,seval,rS]
 .rintro li iZ dn y r' Z nT j1;rw[y5,l_];refine bu (Jx iZ Tryz.func24 (by simp) rfl rfl Ty.mixed (by kernel_rfl) (by kernel_rfl)) ?_;have tu:fk [.row [.int .i64 y.1.k,.int .i64 y.1.n,.int .i64 y.1.no,.str ⟨⟨y.1.name⟩⟩,.sl (y.1.l.map aK) .free,.int .i64 y.2] 126]:=fun ob ho st pe lj e=>by grind
  have hw:mv o y.1=if lg y.1=true then iK o y.1.name else 0:=rfl
  have ZP:∀w:Int,mv o y.1=w->(y.1.no=w->(dn++[y]).all (fun y=>y.1.no==mv o y.1)=true)/\(¬y.1.no=w->jD o x=false):=fun w hw=>by grind
  refine dq.cv ((R_ Γ y.1 _).args (by rw[dM])) ?_;cases hn:lg y.1
  .rw[hn]at hw;obtain⟨g1,g2⟩:=ZP 0 hw;refine aU ?_;refine aJ.intro (fun h5=>?_) (fun h5=>?_)<;>simp(disch:=omega) only[go_sem,seval]
   .exact .inl ⟨g1 h5,_,tu,rfl⟩
   .exact .inr ⟨g2 h5,_,tu,rfl⟩
  .rw[hn]at hw;obtain⟨g1,g2⟩:=ZP _ hw;simp(disch:=omega) only[go_sem,seval,hKo];refine bu (dq.cv (Nu Γ o y.1.name _ ho)) ?_;refine aJ.intro (fun h5=>?_) (fun h5=>?_)<;>simp(disch:=omega) only[go_sem,seval]
   .exact .inl ⟨g1 h5,_,tu,rfl⟩
   .exact .inr ⟨g2 h5,_,tu,rfl⟩
 .rintro j1 Z;have j1:(iR 1 x).all (fun y=>y.1.no==mv o y.1)=true:=j1;rw[DX (fun y=>y.no==mv o y)]at j1;have j1:jD o x=true:=j1;refine aU ?_;refine pq (B:=h.length) _ _ _ _ (by kernel_rfl) ?_;simp(disch:=omega) only[go_sem,seval];rw[j1,hK];simp
 .rintro dn y r' nT hr Z;refine gO ?_;simp(disch:=omega) only[go_sem,seval,List.append_assoc,List.cons_append,List.nil_append];rw[hr,hK];simp
theorem SE(o:List Tx):∀(i:Int) (a b:List Rl),h_ o i (a++b)=(h_ o i a&&h_ o (i+a.length) b)
 |i,[],b=>by simp[h_]
 |i,x::a,b=>by rw[List.cons_append,h_,h_,SE o (i+1) a b,List.length_cons,show i+1+(a.length:Int)=i+((a.length+1:Nat):Int)by omega];simp only[Bool.and_assoc]
theorem SF(Γ)(gH:Γ 0=some qD)(p h)(hs:lO p)(cj:∀x∈exprs p,dT x<=1000)(ik:p.rules.length<=1000000):
  AC Γ 4 [iI p] h (.int .i64 (dp p)):=by
 refine az.drop ?_;refine cS [.tmp 2] Tryz.func4 ?_;have c1:=fun h=>SC Γ gH p h hs cj ik;have c2:=fun x h hx hl=>alj Γ p.bf x h hs.bf hx hl;have hr:=hs.rules;have hd:dp p=if fi p=0 then(if(h_ p.bf 0 p.rules&&jD p.bf p.change)=true then 0 else 200)else fi p:=rfl
 rw[jj]at c1|-;refine aU ?_;refine(c1 _).mono fun v h' ⟨e1,q,e2,_⟩=>?_;subst e1 e2;rw[jj];refine aU ?_;refine aJ.intro (fun h1=>?_) (fun h1=>?_)<;>simp(disch:=omega) only[go_sem,seval];rotate_left
 .rw[hd,if_neg h1]
 rw[if_pos h1]at hd;refine d_ (β:=AH) p.rules [1,2,14,15,16] (fun ae _=>[(1,.ptr (some (h.length,0))),(2,.int .i64 (fi p)),(14,.sl (p.rules.map bY) .free),(15,.int .i64 p.rules.length),(16,.int .i64 ae.length)]) (fun b=>h++ .row [.str ⟨⟨p.name⟩⟩,.sl (bq p.kinds) .free,.sl (bq p.bf) .free,.sl (p.rules.map bY) .free,.int .i64 p.change.k,.int .i64 p.change.n,.int .i64 p.change.no,.str ⟨⟨p.change.name⟩⟩,.sl (p.change.l.map aK) .free,.int .i64 p.mode] 28::b) (fun ae _ b=>h_ p.bf 0 ae=true) [] ?_ rfl rfl ?_ ?_
 .simp(disch:=omega) only[go_sem,seval,List.length_nil]
 .rintro ae x r j bT hp;have hlen:p.rules.length=ae.length+1+r.length:=by rw[bT];simp;omega
  have e1:(p.rules.map bY)[ae.length]? =some (bY x):=by rw[bT];exact fZ ..
  have hx:x∈p.rules:=by rw[bT];simp
  have c6:=fun h=>c2 x.x h (hs.xD x hx) (cj x.x (List.mem_append_left _ (List.mem_map.2 ⟨x,hx,rfl⟩)));have fJ:h_ p.bf 0 p.rules=((x.lK==(ae.length:Int)&&jD p.bf x.x)&&h_ p.bf (0+ae.length+1) r):=by rw[bT,SE,hp,Bool.true_and,h_,Int.zero_add]
  have jk:h_ p.bf 0 (ae++[x])=(x.lK==(ae.length:Int)&&jD p.bf x.x):=by rw[SE,hp,Bool.true_and,h_,Int.zero_add,h_,Bool.and_true]
  rw[dM x.x]at c6;rw[rO]at e1;simp(disch:=omega) only[go_sem,seval];refine aJ.pos (by omega) ?_;simp(disch:=omega) only[go_sem,seval,e1];refine aJ.intro (fun h5=>?_) (fun h5=>?_)<;>simp(disch:=omega) only[go_sem,seval]
  .refine az.cv (c6 _) ?_;rw[<-h5,beq_self_eq_true,Bool.true_and]at fJ jk;cases hb:jD p.bf x.x<;>rw[hb]at fJ jk<;>simp(disch:=omega) only[go_sem,seval]
   .rw[hd,fJ];rfl
   .refine cd (j++[.row [.str ⟨⟨x.kind⟩⟩,.int .i64 x.lK,.int .i64 x.g_,.int .i64 x.x.k,.int .i64 x.x.n,.int .i64 x.x.no,.str ⟨⟨x.x.name⟩⟩,.sl (x.x.l.map aK) .free] 64]) ?_ ?_ ?_
    .exact jk
    .simp(disch:=omega) only[go_sem,seval,List.length_append]
    .simp
  grind
 .rintro j hp;simp(disch:=omega) only[go_sem,seval];refine fE [1,2] ?_;have c7:=fun h=>c2 p.change h hs.change (cj p.change (List.mem_append_right _ (by simp)));rw[dM p.change]at c7;refine az.cv (c7 _) ?_;rw[hp,Bool.true_and]at hd;cases hb:jD p.bf p.change<;>rw[hb]at hd<;>simp(disch:=omega) only[go_sem,seval]
  .rw[hd];rfl
  .rw[hd];rfl
theorem xO(ae r x):(encI (ae++x::r))[ae.length]? =some (.int .i64 x):=by simp[encI]
theorem ZV{lo a}(h:jE lo a=true)(vJ:lo<=63):lo<=a.getLast?.getD lo/\a.getLast?.getD lo<=63:=by
 cases e:a.getLast? with
 |none=>exact⟨Int.le_refl _,vJ⟩
 |some n=>
  have:=SG h n (List.mem_of_getLast? e);simp only[Option.getD_some];omega
theorem SJ(Γ l h)(hl:l.length<=9223372036854775807):AC Γ 42 [.sl (encI l) .free] h (.bool (iS l)):=by
 refine az.drop ?_;refine cS [.tmp 2] Tryz.func42 ?_;simp(disch:=omega) only[go_sem,seval,cc];refine d_ (β:=Unit) l [3,6,7,8] (fun ae _=>[(3,.int .i64 (ae.getLast?.getD (-1))),(6,.sl (encI l) .free),(7,.int .i64 l.length),(8,.int .i64 ae.length)]) (fun _=>h) (fun ae _ _=>jE (-1) ae=true) () ?_ rfl rfl ?_ ?_
 .simp(disch:=omega) only[go_sem,seval,List.length_nil,List.getLast?_nil,Option.getD_none]
 .rintro ae x r _ hd hp;have hlen:l.length=ae.length+1+r.length:=by rw[hd];simp;omega
  have e1:(encI l)[ae.length]? =some (.int .i64 x):=by rw[hd];exact xO ae r x
  have ko:iS l=(decide (ae.getLast?.getD (-1)<x/\x<64)&&jE x r):=by rw[iS,hd,Gg _ _ _ _ hp]
  have jk:jE (-1) (ae++[x])=decide (ae.getLast?.getD (-1)<x/\x<64):=by rw[Gg _ _ _ _ hp,jE,Bool.and_true]
  simp(disch:=omega) only[go_sem,seval];refine aJ.pos (by omega) ?_;simp(disch:=omega) only[go_sem,seval,e1];refine aJ.intro (fun h1=>?_) (fun h1=>?_)<;>simp(disch:=omega) only[go_sem,seval]
  .grind
  refine aJ.intro (fun h2=>?_) (fun h2=>?_)<;>simp(disch:=omega) only[go_sem,seval]
  .grind
  refine cd () ?_ ?_ rfl
  .rw[jk,decide_eq_true (by omega)]
  .simp(disch:=omega) only[go_sem,seval,List.length_append,List.getLast?_append,List.getLast?_singleton,Option.some_or,Option.getD_some]
 .rintro _ hp;simp(disch:=omega) only[go_sem,seval];refine fE [] ?_;rw[iS,hp]
theorem ZW(Γ hs n h)(hl:hs.length<=1000)(j7:∀l∈hs,l.length<=1000):AC Γ 41 [.sl (fY hs) .free,.int .i64 n] h (.bool (j8 hs n)):=by
 refine az.drop ?_;refine cS [.tmp 4] Tryz.func41 ?_;simp(disch:=omega) only[go_sem,seval,Cg];refine d_ (β:=AH) hs [0,1,10,11,12] (fun ae _=>[(0,.sl (fY hs) .free),(1,.int .i64 n),(10,.sl (fY hs) .free),(11,.int .i64 hs.length),(12,.int .i64 ae.length)]) (fun j=>h++j) (fun ae _ _=>ae.all tV=true) [] ?_ (by simp) rfl ?_ ?_
 .simp(disch:=omega) only[go_sem,seval,List.length_nil]
 .rintro ae x r j hd hp;have hlen:hs.length=ae.length+1+r.length:=by rw[hd];simp;omega
  have e1:(fY hs)[ae.length]? =some (.sl (x.map fU) .free):=by rw[hd];exact fZ ..
  have hx:x∈hs:=by rw[hd];simp
  have iD:=j7 x hx;have bad:tV x=false->j8 hs n=false:=fun e=>by rw[j8,hd,List.all_append,List.all_cons,e];simp
  simp(disch:=omega) only[go_sem,seval];refine aJ.pos (by omega) ?_;simp(disch:=omega) only[go_sem,seval,e1,List.length_map];obtain⟨K,hK⟩:∃K:AH,K=h++j:=⟨_,rfl⟩;rw[<-hK];refine d_ (β:=List Int×aS.Own×AH) x [0,1,7,10,11,12,16,17,18] (fun dn b=>[(0,.sl (fY hs) .free),(1,.int .i64 n),(7,.sl (encI b.1) b.2.1),(10,.sl (fY hs) .free),(11,.int .i64 hs.length),(12,.int .i64 ae.length),(16,.sl (x.map fU) .free),(17,.int .i64 x.length),(18,.int .i64 dn.length)]) (fun b=>K++b.2.2) (fun dn _ b=>b.1=dn.map Hd.eC/\dn.all (fun x=>decide (1<=x.weight/\x.weight<=64))=true/\fX K b.2.2 dn.length b.2.1) ([],.full,[]) ?_ (by simp) ⟨rfl,rfl,trivial⟩ ?_ ?_
  .simp(disch:=omega) only[go_sem,seval,List.length_nil];rfl
  .rintro dn y r' ⟨ws,own,X⟩ bT ⟨Ei,NJ,cP⟩;simp only at cP Ei|-;have alu:x.length=dn.length+1+r'.length:=by rw[bT];simp;omega
   have e2:(x.map fU)[dn.length]? =some (fU y):=by rw[bT];exact fZ ..
   have mT:ws.length=dn.length:=by rw[Ei,List.length_map]
   have aB9:¬(1<=y.weight/\y.weight<=64)->j8 hs n=false:=fun e=>bad (by rw[tV,bT,List.all_append,List.all_cons,decide_eq_false e];simp)
   rw[fU]at e2;simp(disch:=omega) only[go_sem,seval];refine aJ.pos (by omega) ?_;simp(disch:=omega) only[go_sem,seval,e2];refine aJ.intro (fun h1=>?_) (fun h1=>?_)<;>simp(disch:=omega) only[go_sem,seval]
   .grind
   refine aJ.intro (fun h2=>?_) (fun h2=>?_)<;>simp(disch:=omega) only[go_sem,seval]
   .grind
   have ei:[AV.int .i64 y.eC]=encI [y.eC]:=rfl;rw[ei];refine pV (by rw[cc,mT];exact cP.app _) (lL _) (lL _) (by simp[encI];omega) (by simp[encI];omega) fun j' eY iG hg=>?_;refine aU ?_;refine cd (ws++[y.eC],eY,j') ⟨?_,?_,?_⟩ ?_ rfl
   .rw[Ei];simp
   .grind
   .simpa [cc,mT]using iG
   .simp(disch:=omega) only[go_sem,seval,List.length_append,encI,List.map_append]
  .rintro⟨ws,own,X⟩ ⟨Ei,NJ,cP⟩;simp only at cP Ei|-;simp(disch:=omega) only[go_sem,seval];refine fE [0,1,7,10,11,12] ?_;refine az.tP (bs:=[.sl (encI ws) .free]) (az.cv (SJ Γ ws _ (by rw[Ei,List.length_map];omega)) ?_) (by simp[eI,loose,rL]);have Nr:tV x=iS ws:=by rw[tV,NJ,Ei,Bool.true_and]
   cases hb:iS ws<;>rw[hb]at Nr<;>simp(disch:=omega) only[go_sem,seval]
   .grind
   .refine fE [0,1,10,11,12] ?_;refine cd (j++X) ?_ ?_ ?_
    .grind
    .simp(disch:=omega) only[go_sem,seval,List.length_append]
    .rw[hK];simp
 .rintro j hp;simp(disch:=omega) only[go_sem,seval];refine jL [0,1] ?_;simp(disch:=omega) only[go_sem,seval,Cg];rw[j8,hp];rfl
theorem fdiv_pow(m k:Nat):((m:Int).fdiv (2^k))=((m/2^k:Nat):Int):=by grind
theorem JR(Γ x h):AC Γ 271 [.int .i64 x] h (.bool false):=by refine az.drop ?_;exact xB [.tmp 2] Tryz.func271
theorem SU(Γ x y h):AC Γ 233 [.int .i64 x,.int .i64 y] h (.bool (decide (x<y))):=by refine az.drop ?_;refine cY [.tmp 4] Tryz.func233 ?_;exact qx (JR Γ x _)
theorem El{P:List Int}(hP:P.Pairwise (·<·)){a b:Nat}{u v}(ha:P[a]? =some u)(hb:P[b]? =some v)(h:a<b):u<v:=by obtain⟨Ax,rfl⟩:=List.getElem?_eq_some_iff.1 ha;obtain⟨fI,rfl⟩:=List.getElem?_eq_some_iff.1 hb;exact List.pairwise_iff_getElem.1 hP a b Ax fI h
theorem SV(Γ x h):AC Γ 261 [.int .i64 x] h (.bool false):=by refine az.drop ?_;exact xB [.tmp 2] Tryz.func261
def below(P:List Int)(x:Int):Nat:=(P.filter fun y=>decide (y<x)).length
theorem SX{P x i}(h2:i<=P.length)(h3:∀k y,P[k]? =some y->k<i->y<x)(h4:∀k y,P[k]? =some y->i<=k->x<=y):below P x=i:=by
 have e1:(P.take i).filter (fun y=>decide (y<x))=P.take i:=List.filter_eq_self.2 fun y hy=>by obtain⟨k,hk,rfl⟩:=List.mem_iff_getElem.1 hy;grind
 have e2:(P.drop i).filter (fun y=>decide (y<x))=[]:=List.filter_eq_nil_iff.2 fun y hy=>by obtain⟨k,hk,rfl⟩:=List.mem_iff_getElem.1 hy;rw[List.length_drop]at hk;rw[List.getElem_drop];have:=h4 (i+k) _ (List.getElem?_eq_getElem (by omega)) (by omega);simp;omega
 conv=>lhs;rw[below,<-List.take_append_drop i P,List.filter_append,e1,e2,List.append_nil,List.length_take]
 omega
theorem SY(Γ P x h)(hP:P.Pairwise (·<·))(hl:P.length<=1000):
  az Tryz.prog Γ 212 [.sl (encI P) .free,.int .i64 x] h fun v h'=>h'=h/\∃k:Nat,v= .tuple [.int .i64 k,.bool (decide (x∈P))]/\(x∈P->P[k]? =some x)/\k=below P x:=by
 refine cS [.tmp 4,.tmp 5] Tryz.func212 ?_;simp(disch:=omega) only[go_sem,seval,cc];refine vU (α:=Nat×Nat) [0,1,6,7,8] (fun s=>[(0,.sl (encI P) .free),(1,.int .i64 x),(6,.int .i64 P.length),(7,.int .i64 s.1),(8,.int .i64 s.2)]) (fun _=>h)
  (fun s=>s.1<=s.2/\s.2<=P.length/\(∀k y,P[k]? =some y->k<s.1->y<x)/\∀k y,P[k]? =some y->s.2<=k->x<=y) (fun s=>s.2-s.1) (0,P.length) ?_ rfl ⟨by simp,by simp,by simp,fun k y e hk=>by grind⟩ Ty.mixed (by kernel_rfl) ?_
 .exact dL
 rintro⟨i,j⟩ ⟨h1,h2,h3,h4⟩;simp only at h1 h2 h3 h4|-;refine aU ?_;refine aJ.intro (fun nf=>?_) (fun nf=>?_)<;>simp(disch:=omega) only[go_sem,seval]
 .obtain⟨m,hm⟩:∃m,m=(i+j)/2:=⟨_,rfl⟩;have SZ:IntKind.i64.wrap ((IntKind.u64.wrap ((i:Int)+(j:Int))).fdiv (2^min 1 64))=(m:Int):=by rw[show((i:Int)+(j:Int))=((i+j:Nat):Int)from by omega,IntWalk.u64_in _ ⟨by omega,by omega⟩,show min 1 64=1 from rfl,fdiv_pow,IntWalk.i64_in _ ⟨by omega,by omega⟩,hm]
  have S0:i<=m:=by omega
  have hmj:m<j:=by omega
  obtain⟨y,hy⟩:∃y,P[m]? =some y:=⟨P[m]'(by omega),by simp⟩;have e1:(encI P)[m]? =some (.int .i64 y):=by rw[encI,List.getElem?_map,hy];rfl
  rw[SZ];simp(disch:=omega) only[go_sem,seval,e1];refine bL (SU Γ y x _) ?_;refine aJ.intro (fun uY=>?_) (fun uY=>?_)<;>simp(disch:=omega) only[go_sem,seval]
  .refine sJ (m+1,j) (by simp only;omega) ⟨by simp only;omega,h2,fun k z e hk=>?_,h4⟩ ?_ rfl
   .simp only at hk;rcases Nat.lt_or_ge k m with px|px
    .have:=El hP e hy px;omega
    grind
   .exact dL
  .refine sJ (i,m) (by simp only;omega) ⟨S0,by simp only;omega,h3,fun k z e hk=>?_⟩ ?_ rfl
   .simp only at hk;rcases Nat.lt_or_ge m k with px|px
    .have:=El hP hy e px;omega
    grind
   .exact dL
 .have S1:i=j:=by omega
  subst S1;refine fE [0,1,6,7] ?_;refine aJ.intro (fun hi=>?_) (fun hi=>?_)<;>simp(disch:=omega) only[go_sem,seval]
  .obtain⟨y,hy⟩:∃y,P[i]? =some y:=⟨P[i]'(by omega),by simp⟩;have e1:(encI P)[i]? =some (.int .i64 y):=by rw[encI,List.getElem?_map,hy];rfl
   simp(disch:=omega) only[go_sem,seval,e1];refine aJ.intro (fun uY=>?_) (fun uY=>?_)<;>simp(disch:=omega) only[go_sem,seval]
   .subst uY;have nk:y∈P:=List.mem_of_getElem? hy;refine⟨i,?_,fun _=>hy,(SX h2 h3 h4).symm⟩;rw[decide_eq_true nk]
   .simp(disch:=omega) only[go_sem,seval,e1];refine bL (SV Γ y _) ?_;have Em:x∉P:=fun hx=>by
     obtain⟨k,hk,rfl⟩:=List.mem_iff_getElem.1 hx;have ng:P[k]? =some P[k]:=by simp[hk]
     rcases Nat.lt_trichotomy k i with c|c|c
     .have:=h3 k _ ng c;omega
     .grind
     .have:=h4 i _ hy (Nat.le_refl _);have:=El hP hy ng c;omega
    refine⟨i,?_,fun e=>absurd e Em,(SX h2 h3 h4).symm⟩;rw[decide_eq_false Em]
  .have Em:x∉P:=fun hx=>by
    obtain⟨k,hk,rfl⟩:=List.mem_iff_getElem.1 hx;have ng:P[k]? =some P[k]:=by simp[hk]
    have:=h3 k _ ng (by omega);omega
   refine⟨i,?_,fun e=>absurd e Em,(SX h2 h3 h4).symm⟩;rw[decide_eq_false Em]
def qC(v:Int)(hs:List (List Hd))(who:List Int):List AV:=[.int .i64 v,.sl (fY hs) .free,.sl (encI who) .free]
def tX(v:Int)(hs:List (List Hd))(who:List Int):AV:= .agg (qC v hs who)
def NO(v:Int)(hs:List (List Hd))(who:List Int)(no:Int):AV:= .func 211 [] [.bS (qC v hs who),.bS [.int .i64 no]]
def AQ(hs:List (List Hd))(who:List Int)(no:Int):List Hd:=(gI hs no).filter fun x=>mz who x.eC
theorem Z7(Γ v hs who no h):AC Γ 161 [tX v hs who,.int .i64 no] h (NO v hs who no):=by
 rw[NO,tX,qC];refine az.ji ?_;refine az.freeze ?_;refine az.freeze ?_;refine cY [.tmp 4] Tryz.func161 ?_;have e1:∀a b:cO,(h++[a,b])[h.length]? =some a:=fun a b=>by simp
 have e2:∀a b:cO,((h++[a,b]).set h.length .frozen)[h.length+1]? =some b:=fun a b=>by grind
 have e4:∀a b:cO,∃l,((h++[a,b]).set h.length .frozen).set (h.length+1) .frozen=h++l:=fun a b=>⟨[.frozen,.frozen],by simp_all⟩;refine⟨h.length,_,_,_,e1 _ _,jM.set (e1 _ _),h.length+1,_,_,_,e2 _ _,jM.set (e2 _ _),e4 _ _,?_,?_⟩
 .simp only[dd,fB,if_true,List.drop_zero];rw[if_neg (by omega)];simp only[dd,if_true,List.drop_zero,loose];exact .func (bB.nil _) (bB.cons (.bS (bB.cons (.int _ _) (bB.cons (of_eq_true (YB _ _)) (bB.cons (of_eq_true (pZ _ _)) (bB.nil _))))) (bB.cons (.bS (bB.cons (.int _ _) (bB.nil _))) (bB.nil _)))
 .simp only[dd,fB,if_true,List.drop_zero];rw[if_neg (by omega)];simp only[dd,if_true,List.drop_zero,loose]
theorem Z8(Γ v hs who)(no:Int)(h0:0<=no/\no<hs.length)(hl:(gI hs no).length<=1000)(hw:who.Pairwise (·<·))(mT:who.length<=1000):
  NN Tryz.prog Γ 211 [.bS (qC v hs who),.bS [.int .i64 no]] (fun x=>[fU x]) (AQ hs who no):=by
 intro L I S hh HA HS HY hI;have e0:(fY hs)[no.toNat]? =some (.sl ((gI hs no).map fU) .free):=by
  have:no.toNat<hs.length:=by omega
  rw[fY,List.getElem?_map,gI,List.getD_eq_getElem?_getD,List.getElem?_eq_getElem this];rfl
 rw[AQ]at HY|-;rw[qC];generalize gI hs no=l at e0 HY hl|-;refine cY [] Tryz.func211 ?_;refine⟨by omega,?_⟩;rw[e0];simp(disch:=omega) only[go_sem,seval,List.length_map];refine JQ l [0,1,2,12,13,14] (fun ae=>[(0,.yield L),(1,.bS [.int .i64 v,.sl (fY hs) .free,.sl (encI who) .free]),(2,.bS [.int .i64 no]),(12,.sl (l.map fU) .free),(13,.int .i64 l.length),(14,.int .i64 ae.length)])
  (fun ae _ h=>I (ae.filter fun x=>mz who x.eC) h) ?_ hI ?_ ?_
 .simp(disch:=omega) only[go_sem,seval,List.length_nil]
 .rintro ae x r h hd uZ;have hlen:l.length=ae.length+1+r.length:=by rw[hd];simp;omega
  have e1:(l.map fU)[ae.length]? =some (fU x):=by rw[hd];exact fZ ..
  rw[fU]at e1;refine cI ?_;refine cI ?_;refine bu (aJ.pos (by omega)) ?_;refine fR (jZ ?_);refine eQ ?_;simp(disch:=omega) only[go_sem,seval,e1];have hg:(h++[.row [.int .i64 x.eC,.int .i64 x.weight] 69])[h.length]? =some (.row [.int .i64 x.eC,.int .i64 x.weight] 69):=by simp
  refine gR ?_;refine(SY Γ who x.eC _ hw mT).mono fun w h' ⟨e1,k,e2,_⟩=>?_;subst e1 e2;refine aU ?_;have hP:mz who x.eC=decide (x.eC∈who):=rfl;refine aJ.intro (fun hb=>?_) (fun hb=>?_)<;>simp(disch:=omega) only[go_sem,seval]
  .rw[decide_eq_true hb]at hP;obtain⟨r',e'⟩:∃r',l.filter (fun x=>mz who x.eC)=ae.filter (fun x=>mz who x.eC)++x::r':=⟨r.filter fun x=>mz who x.eC,by grind⟩;refine(HY _ x r' _ e' (HA _ _ _ (fk.Cu _ _) uZ)).mono ?_;rintro w h2 (⟨rfl,Ae⟩|⟨rfl,Cr⟩)<;>simp(disch:=omega) only[go_sem,seval]
   .refine gO ?_;simp(disch:=omega) only[go_sem,seval,List.length_append];grind
   .exact .inr Cr
  .rw[decide_eq_false hb]at hP;refine gO ?_;simp(disch:=omega) only[go_sem,seval,List.length_append];rw[List.filter_append,List.filter_cons_of_neg (p:=fun x:Hd=>mz who x.eC) (by rw[hP];decide),List.filter_nil,List.append_nil];exact HA _ _ _ (fk.Cu _ _) uZ
 .rintro h uZ;refine gO ?_;simp(disch:=omega) only[go_sem,seval];exact .inl uZ
theorem alD(Γ v hs who)(x:Ex)(h)(h0:0<=x.no/\x.no<hs.length)(hl:(gI hs x.no).length<=1000)(hw:who.Pairwise (·<·))(mT:who.length<=1000):
  AC Γ 103 [tX v hs who,aK x] h (.bool (sT who (gI hs x.no))):=by
 have c1:=fun h=>Z7 Γ v hs who x.no h;have c2:=Z8 Γ v hs who x.no h0 hl hw mT;have Z_:sT who (gI hs x.no)=!(AQ hs who x.no).isEmpty:=by
  rw[sT,AQ];induction gI hs x.no with
  |nil=>rfl
  |cons y r ih=>grind
 refine az.drop ?_;rw[dM,tX,qC]at*;refine cY [.cell 4 4] Tryz.func103 ?_;refine az.cv (c1 _) ?_;simp(disch:=omega) only[go_sem,seval,NO];rw[qC];refine bu (bw.keep [4,8]) ?_;obtain⟨K,hK⟩:∃K:AH,K=h++[.row [.int .i64 v,.sl (fY hs) .free,.sl (encI who) .free] 85,.row [.int .i64 x.k,.int .i64 x.n,.int .i64 x.no,.str ⟨⟨x.name⟩⟩,.sl (x.l.map aK) .free] 26]:=⟨_,rfl⟩;have lQ:h.length+2=K.length:=by rw[hK];simp
 have eh:∀b:Bool,h++[.row [.int .i64 v,.sl (fY hs) .free,.sl (encI who) .free] 85,.row [.int .i64 x.k,.int .i64 x.n,.int .i64 x.no,.str ⟨⟨x.name⟩⟩,.sl (x.l.map aK) .free] 26,.row [.bool b] 4]=K++[.row [.bool b] 4]:=fun b=>by rw[hK];simp
 rw[eh,lQ];refine Z5 c2 rfl _ (fun _=>[.row [.bool false] 4]) [.row [.bool true] 4] .ret (fun ae=>ae=[]) (AQ hs who x.no≠[]) 1 (fun _=>rfl) (fun _=>fk.Cu _ _) rfl (fk.Cu _ _) rfl ?_ ?_ ?_
 .rintro li iZ ae y r Y hd rfl;rw[fU];refine Jf iZ (by grind) (by kernel_rfl) rfl Ty.mixed (by kernel_rfl) (by kernel_rfl) ?_;simp(disch:=omega) only[go_sem,seval,List.append_assoc,List.cons_append,List.nil_append];exact .inr ⟨by rw[hd];simp,[],fk.none,by simp⟩
 .rintro hj Y;simp(disch:=omega) only[go_sem,seval,List.append_assoc,List.cons_append,List.nil_append];refine gR ?_;rw[Z_,hj,hK];simp
 .rintro hj Y;refine gO ?_;simp(disch:=omega) only[go_sem,seval,List.append_assoc,List.cons_append,List.nil_append];rw[Z_,hK];simp[hj]
def sV(l:List Hd):Int:=(l.map Hd.weight).sum
theorem alE(a x):sV (a++[x])=sV a+x.weight:=by simp[sV]
theorem alF(l)(hw:∀x∈l,1<=x.weight/\x.weight<=64):0<=sV l/\sV l<=64*l.length:=by
 induction l with
 |nil=>simp[sV]
 |cons x r ih=>
  have h1:=ih fun y hy=>hw y (by simp[hy]);have h2:=hw x (by simp);have:sV (x::r)=x.weight+sV r:=by simp[sV]
  rw[this,List.length_cons];omega
theorem alG(hs who no):sV (AQ hs who no)=sU who (gI hs no):=by
 rw[AQ];induction gI hs no with
 |nil=>rfl
 |cons x r ih=>
  rw[sU,<-ih];cases hp:mz who x.eC<;>simp[hp,sV]
theorem alH(Γ y i s h)(hi:h[i]? =some (.row [.int .i64 s] 3))(hb:-9223372036854775808<=s+y.weight/\s+y.weight<=9223372036854775807):
  az Tryz.prog Γ 162 [fU y,.ptr (some (i,0))] h fun _ h'=>h'=h.set i (.row [.int .i64 (s+y.weight)] 3)++[.row [.int .i64 y.eC,.int .i64 y.weight] 69]:=by
 have lF:=(List.getElem?_eq_some_iff.1 hi).1;have cV:h.length≠i:=by omega
 have S2:∀o:cO,(h++[o])[i]? =some (.row [.int .i64 s] 3):=fun o=>by grind
 rw[fU];refine cS [] Tryz.func162 ?_;simp(disch:=omega) only[go_sem,seval,S2];exact List.set_append_left _ _ lF
theorem alI(Γ v hs who)(x:Ex)(h)(h0:0<=x.no/\x.no<hs.length)(hl:(gI hs x.no).length<=1000)(NJ:∀y∈gI hs x.no,1<=y.weight/\y.weight<=64)(hw:who.Pairwise (·<·))(mT:who.length<=1000):
  AC Γ 104 [tX v hs who,aK x] h (.bool (decide (x.n<=sU who (gI hs x.no)))):=by
 have c1:=fun h=>Z7 Γ v hs who x.no h;have c2:=Z8 Γ v hs who x.no h0 hl hw mT;rw[<-alG];have gV:(AQ hs who x.no).length<=1000:=Nat.le_trans (List.length_filter_le _ _) hl;have haw:∀y∈AQ hs who x.no,1<=y.weight/\y.weight<=64:=fun y hy=>NJ y (List.mem_filter.1 hy).1;refine az.drop ?_;rw[dM,tX,qC]at*;refine cY [.tmp 4] Tryz.func104 ?_;refine az.cv (c1 _) ?_;simp(disch:=omega) only[go_sem,seval,NO];rw[qC];refine bu (bw.keep [3,5,6,12]) ?_;obtain⟨K,hK⟩:∃K:AH,K=h++[.row [.int .i64 v,.sl (fY hs) .free,.sl (encI who) .free] 85,.row [.int .i64 x.k,.int .i64 x.n,.int .i64 x.no,.str ⟨⟨x.name⟩⟩,.sl (x.l.map aK) .free] 26]:=⟨_,rfl⟩;have lQ:h.length+2=K.length:=by rw[hK];simp
 have alJ:h.length+3=K.length+1:=by omega
 have hKx:∀l,(K++l)[h.length+1]? =some (.row [.int .i64 x.k,.int .i64 x.n,.int .i64 x.no,.str ⟨⟨x.name⟩⟩,.sl (x.l.map aK) .free] 26):=fun l=>by rw[hK];simp
 rw[show h++[.row [.int .i64 v,.sl (fY hs) .free,.sl (encI who) .free] 85,.row [.int .i64 x.k,.int .i64 x.n,.int .i64 x.no,.str ⟨⟨x.name⟩⟩,.sl (x.l.map aK) .free] 26,.row [.int .i64 0] 3,.row [.func 162 [] [.ptr (some (h.length+2,0))]] 227]=K++[.row [.int .i64 (sV [])] 3,.row [.func 162 [] [.ptr (some (K.length,0))]] 227]from by rw[lQ,hK];simp[sV]];rw[alJ,lQ];have tu:∀n:Int,fk [.row [.int .i64 n] 3,.row [.func 162 [] [.ptr (some (K.length,0))]] 227]:=fun n=>(fk.Cu [.int .i64 n] 3).Gm (fk.Cu [.func 162 [] [.ptr (some (K.length,0))]] 227);refine Z5 c2 rfl K (fun ae=>[.row [.int .i64 (sV ae)] 3,.row [.func 162 [] [.ptr (some (K.length,0))]] 227]) [.row [.int .i64 0] 3,.row [.func 162 [] [.ptr (some (K.length,0))]] 227] .ret (fun _=>True) False 2 (fun _=>rfl) (fun _=>tu _) rfl (tu _) trivial ?_ ?_ (fun hf=>hf.elim)
 .rintro li iZ ae y r Y hd-;have rN:ae.length+1<=1000:=by rw[hd]at gV;simp at gV;omega
  have fI:=alF ae fun z hz=>haw z (by rw[hd];simp[hz]);have jH:=haw y (by rw[hd];simp);have c3:=fun i h hi=>alH Γ y i (sV ae) h hi (by omega);rw[<-alE]at c3;rw[fU]at c3|-;refine Jf iZ (by rw[List.append_assoc,List.getElem?_append_right (by omega)];simp) (by kernel_rfl) rfl Ty.mixed (by kernel_rfl) (by kernel_rfl) ?_;simp(disch:=omega) only[go_sem,seval,List.append_assoc,List.cons_append,List.nil_append];have fC:∀(a:cO) (l:AH) (o:cO),(K++a::l).set K.length o=K++o::l:=fun a l o=>by simp
  refine(c3 K.length _ (by simp)).mono fun w h' e=>?_;subst e;rw[fC];simp(disch:=omega) only[go_sem,seval,List.append_assoc,List.cons_append,List.nil_append];exact .inl ⟨[_,_],(fk.Cu _ _).Gm (fk.Cu _ _),rfl⟩
 .rintro-Y;simp(disch:=omega) only[go_sem,seval,List.append_assoc,List.cons_append,List.nil_append];refine gO ?_;simp(disch:=omega) only[go_sem,seval,hKx];grind
def AS(Γ:GG)(v:Int)(hs:List (List Hd))(who:List Int)(x:Ex):Prop:=
 ∀h,AC Γ 43 [tX v hs who,aK x] h (.bool (mc v hs who x))
theorem alL(Γ v hs who x h)(hl:x.l.length<=1000)(IH:∀y∈x.l,AS Γ v hs who y):
  AC Γ 105 [tX v hs who,aK x] h (.bool (decide (x.n<=pt (x.l.map (mc v hs who))))):=by
 refine az.drop ?_;simp only[AS,tX,qC]at IH|-;rw[dM];refine cS [.tmp 4] Tryz.func105 ?_;simp(disch:=omega) only[go_sem,seval,List.length_map];refine d_ (β:=AH) x.l [2,3,5,9,10,11] (fun ae _=>[(2,.ptr (some (h.length,0))),(3,.ptr (some (h.length+1,0))),(5,.int .i64 (pt (ae.map (mc v hs who)))),(9,.sl (x.l.map aK) .free),(10,.int .i64 x.l.length),(11,.int .i64 ae.length)]) (fun j=>h++ .row [.int .i64 v,.sl (fY hs) .free,.sl (encI who) .free] 85:: .row [.int .i64 x.k,.int .i64 x.n,.int .i64 x.no,.str ⟨⟨x.name⟩⟩,.sl (x.l.map aK) .free] 26::j) (fun _ _ _=>True) [] ?_ rfl trivial ?_ ?_
 .simp(disch:=omega) only[go_sem,seval,List.length_nil];rfl
 .rintro ae y r j hd-;have hlen:x.l.length=ae.length+1+r.length:=by rw[hd];simp;omega
  have e1:(x.l.map aK)[ae.length]? =some (aK y):=by rw[hd];exact fZ ..
  have hb:=alo (ae.map (mc v hs who));rw[List.length_map]at hb;have c1:=IH y (by rw[hd];simp);rw[dM]at e1 c1;simp(disch:=omega) only[go_sem,seval];refine aJ.pos (by omega) ?_;simp(disch:=omega) only[go_sem,seval,e1];refine az.cv (c1 _) ?_;have hn:pt ((ae++[y]).map (mc v hs who))=pt (ae.map (mc v hs who))+(if mc v hs who y then 1 else 0):=by rw[List.map_append,aln];simp[pt]
  cases hf:mc v hs who y<;>rw[hf]at hn<;>simp(disch:=omega) only[go_sem,seval]
  .rw[if_neg (by decide),Int.add_zero]at hn;refine cd (j++[.row [.int .i64 y.k,.int .i64 y.n,.int .i64 y.no,.str ⟨⟨y.name⟩⟩,.sl (y.l.map aK) .free] 26]) trivial ?_ ?_
   .simp(disch:=omega) only[go_sem,seval,List.length_append,hn]
   .simp
  .refine cd (j++[.row [.int .i64 y.k,.int .i64 y.n,.int .i64 y.no,.str ⟨⟨y.name⟩⟩,.sl (y.l.map aK) .free] 26]) trivial ?_ ?_
   .simp(disch:=omega) only[go_sem,seval,List.length_append,hn]
   .simp
 .rintro j-;simp(disch:=omega) only[go_sem,seval];exact yT [3,5]
theorem alM(Γ v hs who x h)(hl:x.l.length=2)(IH:∀y∈x.l,AS Γ v hs who y):
  AC Γ 106 [tX v hs who,aK x] h (.bool ((x.l.map (mc v hs who)).getD (if v<=x.n then 0 else 1) false)):=by
 obtain⟨a,b,nj⟩:∃a b,x.l=[a,b]:=by
  match hx:x.l with
  |[]=>rw[hx]at hl;cases hl
  |[_]=>rw[hx]at hl;cases hl
  |[a,b]=>exact⟨a,b,rfl⟩
  |_::_::_::_=>rw[hx]at hl;simp at hl
 refine az.drop ?_;simp only[AS,tX,qC]at IH|-;rw[dM];have ia:=IH a (by rw[nj];simp);have ib:=IH b (by rw[nj];simp);rw[nj,List.map_cons,List.map_cons,List.map_nil,List.map_cons,List.map_cons,List.map_nil];refine cY [.tmp 4] Tryz.func106 ?_;refine aJ.intro (fun h1=>?_) (fun h1=>?_)<;>simp(disch:=omega) only[go_sem,seval]
 .refine bu (gY.intro (fun _=>ia _)) ?_;rw[if_pos h1];rfl
 .refine bu (gY.intro (fun _=>ib _)) ?_;rw[if_neg h1];rfl
structure JS(hs:List (List Hd))(who:List Int):Prop where
 len:∀l∈hs,l.length<=1000
 wt:∀l∈hs,∀y∈l,1<=y.weight/\y.weight<=64
 pw:who.Pairwise (·<·)
 wl:who.length<=1000
theorem JT{hs}{no:Int}(h:0<=no/\no<hs.length):gI hs no∈hs:=by
 have:no.toNat<hs.length:=by omega
 rw[gI,List.getD_eq_getElem?_getD,List.getElem?_eq_getElem this];exact List.getElem_mem this
theorem aab(Γ:GG)(v:Int)(hs:List (List Hd))(who:List Int)(H:JS hs who)(o:List Tx)(u:Bool)(ho:o.length=hs.length):∀(m:Nat) (x:Ex),SizeOf.sizeOf x<m->rT o u x=true->AS Γ v hs who x
 |0,_,hk,_=>absurd hk (Nat.not_lt_zero _)
 |m+1,x,cj,eD=>by
  have IH:∀y∈x.l,AS Γ v hs who y:=fun y hy=>aab Γ v hs who H o u ho m y (by cases x;exact pX hy cj) (JN eD hy);have p7:=JM eD;have hk:=NF p7;intro h;have hd:=ZQ v hs who x;have c3:∀h,x.k=3->_:=fun h e=>alL Γ v hs who x h (by have:=NH p7 e;omega) IH;have c4:∀h,x.k=4->_:=fun h e=>alM Γ v hs who x h (SI p7 e).1 IH;have rH:x.k=1\/x.k=2->0<=x.no/\x.no<hs.length:=fun e=>by have:=ZT p7 e;omega
  have c1:∀h,x.k=1->_:=fun h e=>alD Γ v hs who x h (rH (.inl e)) (H.len _ (JT (rH (.inl e)))) H.pw H.wl;have c2:∀h,x.k=2->_:=fun h e=>alI Γ v hs who x h (rH (.inr e)) (H.len _ (JT (rH (.inr e)))) (H.wt _ (JT (rH (.inr e)))) H.pw H.wl;rw[dM]at*;simp only[tX,qC]at*;refine az.drop ?_;refine cY [.tmp 4] Tryz.func43 ?_;refine⟨by omega,by omega,?_⟩;obtain e|e|e|e:x.k=1\/x.k=2\/x.k=3\/x.k=4:=by omega
  .have c:=fun h=>c1 h e;rw[e]at c hd|-;refine aU ?_;refine bu (gY.intro (fun _=>c _)) ?_;rw[hd];rfl
  .have c:=fun h=>c2 h e;rw[e]at c hd|-;refine aU ?_;refine bu (gY.intro (fun _=>c _)) ?_;rw[hd];rfl
  .have c:=fun h=>c3 h e;rw[e]at c hd|-;refine aU ?_;refine bu (gY.intro (fun _=>c _)) ?_;rw[hd];rfl
  .have c:=fun h=>c4 h e;rw[e]at c hd|-;refine aU ?_;refine bu (gY.intro (fun _=>c _)) ?_;rw[hd];rfl
theorem aac(Γ v hs who)(H:JS hs who)(o u)(ho:o.length=hs.length)(x)(hx:rT o u x=true):AS Γ v hs who x:=
 aab Γ v hs who H o u ho _ x (Nat.lt_succ_self _) hx
theorem S5{l}(h:tV l=true):(∀y∈l,1<=y.weight/\y.weight<=64)/\(l.map Hd.eC).Pairwise (·<·)/\(∀y∈l,0<=y.eC/\y.eC<64)/\l.length<=64:=by rw[tV,Bool.and_eq_true,List.all_eq_true]at h;have h2:=(SH _).1 h.2;have h3:=JL h.2;grind
theorem NQ{hs n who}(h1:j8 hs n=true)(h2:iS who=true):JS hs who/\(hs.length:Int)=n:=by rw[j8,Bool.and_eq_true,List.all_eq_true,decide_eq_true_eq]at h1;exact⟨⟨fun l hl=>by have:=(S5 (h1.1 l hl)).2.2.2;omega,fun l hl=>(S5 (h1.1 l hl)).1,((SH _).1 h2).1,by have:=JL h2;omega⟩,h1.2⟩
structure S6(hs:List (List Hd))(who:List Int):Prop where
 n:hs.length<=1000
 l:∀l∈hs,l.length<=1000
 w:who.length<=1000
def AT(x:Bool×Int):AV:= .tuple [.bool x.1,.int .i64 x.2]
theorem S7(Γ)(gH:Γ 0=some qD)(p kind value hs who h)(hp:lO p)(cj:∀x∈exprs p,dT x<=1000)(ik:p.rules.length<=1000000)(S:S6 hs who):
  AC Γ 14 [iI p,.int .i64 kind,.int .i64 value,.sl (fY hs) .free,.sl (encI who) .free] h (AT (eZ p kind value hs who)):=by
 have c1:=fun h=>SF Γ gH p h hp cj ik;have c2:=fun h=>ZW Γ hs p.bf.length h S.n S.l;have c3:=fun h=>SJ Γ who h (by have:=S.w;omega);have c4:=fun H o u ho x hx=>aac Γ value hs who H o u ho x hx;simp only[AS,tX,qC]at c4;have hk:=hp.kinds;have ho:=hp.bf;refine az.drop ?_;rw[jj]at*;refine cY [.tmp 10,.tmp 11] Tryz.func14 ?_;refine bL (c1 _) ?_;have hd:eZ p kind value hs who=if dp p≠0 then(false,dp p)else if kind<0\/(p.kinds.length:Int)<=kind\/value<0\/1099511627776<value then(false,1)else if j8 hs p.bf.length=false then(false,210)else if iS who=false then(false,1)else(((p.rules[kind.toNat]?).map fun r=>mc value hs who r.x).getD false,0):=rfl
 refine aJ.intro (fun h1=>?_) (fun h1=>?_)<;>simp(disch:=omega) only[go_sem,seval];rotate_left
 .rw[hd,if_pos h1];rfl
 rw[if_neg (by simpa using h1)]at hd;refine aJ.intro (fun h2=>?_) (fun h2=>?_)<;>simp(disch:=omega) only[go_sem,seval,kA]
 .rw[hd,if_pos (by omega)];rfl
 refine aJ.intro (fun h3=>?_) (fun h3=>?_)<;>simp(disch:=omega) only[go_sem,seval]
 .rw[hd,if_pos (by omega)];rfl
 refine aJ.intro (fun h4=>?_) (fun h4=>?_)<;>simp(disch:=omega) only[go_sem,seval]
 .rw[hd,if_pos (by omega)];rfl
 refine aJ.intro (fun h5=>?_) (fun h5=>?_)<;>simp(disch:=omega) only[go_sem,seval,kA]
 .rw[hd,if_pos (by omega)];rfl
 rw[if_neg (by omega)]at hd;refine bL (c2 _) ?_;cases h6:j8 hs p.bf.length<;>rw[h6]at hd<;>simp(disch:=omega) only[go_sem,seval]
 .rw[hd];rfl
 refine bL (c3 _) ?_;cases h7:iS who<;>rw[h7]at hd<;>simp(disch:=omega) only[go_sem,seval]
 .rw[hd];rfl
 obtain⟨H,hn⟩:=NQ h6 h7;have oe:dp p=0:=h1;have hlen:=NI oe;obtain⟨r,hr⟩:∃r,p.rules[kind.toNat]? =some r:=⟨_,List.getElem?_eq_getElem (by omega)⟩;have xP:r∈p.rules:=List.mem_of_getElem? hr;have c5:=c4 H p.bf true (by omega) r.x (JO oe xP).1;have e1:(p.rules.map bY)[kind.toNat]? =some (bY r):=by rw[List.getElem?_map,hr];rfl
 rw[dM]at c5;rw[rO]at e1;rw[hr]at hd;refine⟨by omega,?_⟩;rw[e1];refine aU ?_;refine bL (c5 _) ?_;rw[hd];rfl
theorem aad(Γ)(gH:Γ 0=some qD)(p hs who h)(hp:lO p)(cj:∀x∈exprs p,dT x<=1000)(ik:p.rules.length<=1000000)(S:S6 hs who):
  AC Γ 15 [iI p,.sl (fY hs) .free,.sl (encI who) .free] h (AT (uV p hs who)):=by
 have c1:=fun h=>SF Γ gH p h hp cj ik;have c2:=fun h=>ZW Γ hs p.bf.length h S.n S.l;have c3:=fun h=>SJ Γ who h (by have:=S.w;omega);have c4:=fun H o u ho x hx=>aac Γ 0 hs who H o u ho x hx;simp only[AS,tX,qC]at c4;have ho:=hp.bf;refine az.drop ?_;rw[jj]at*;refine cY [.tmp 6,.tmp 7] Tryz.func15 ?_;refine bL (c1 _) ?_;have hd:uV p hs who=if dp p≠0 then(false,dp p)else if j8 hs p.bf.length=false then(false,210)else if iS who=false then(false,1)else(mc 0 hs who p.change,0):=rfl
 refine aJ.intro (fun h1=>?_) (fun h1=>?_)<;>simp(disch:=omega) only[go_sem,seval,kA];rotate_left
 .rw[hd,if_pos h1];rfl
 rw[if_neg (by simpa using h1)]at hd;refine bL (c2 _) ?_;cases h6:j8 hs p.bf.length<;>rw[h6]at hd<;>simp(disch:=omega) only[go_sem,seval]
 .rw[hd];rfl
 refine bL (c3 _) ?_;cases h7:iS who<;>rw[h7]at hd<;>simp(disch:=omega) only[go_sem,seval]
 .rw[hd];rfl
 obtain⟨H,hn⟩:=NQ h6 h7;have oe:dp p=0:=h1;have c5:=c4 H p.bf false (by omega) p.change (JP oe).1;rw[dM]at c5;refine bL (c5 _) ?_;rw[hd];rfl
theorem aae{α:Type}(f:α->AV)(dn r z y l)(hl:l=dn++[z]++y::r):(l.map f)[((((dn++[z]).length:Nat):Int)-1).toNat]? =some (f z):=by simp_all
theorem alN(Γ l h)(hl:l.length<=9223372036854775807):AC Γ 8 [.sl (encI l) .free] h (.bool (iS l)):=by
 refine az.drop ?_;refine cS [.tmp 2] Tryz.func8 ?_;simp(disch:=omega) only[go_sem,seval];refine d_ (β:=Unit) l [0,3] (fun ae _=>[(0,.sl (encI l) .free),(3,.int .i64 ae.length)]) (fun _=>h) (fun ae _ _=>jE (-1) ae=true) () ?_ rfl rfl ?_ ?_
 .simp(disch:=omega) only[go_sem,seval,List.length_nil]
 .rintro ae x r _ hd hp;have hlen:l.length=ae.length+1+r.length:=by rw[hd];simp;omega
  have e1:(encI l)[ae.length]? =some (.int .i64 x):=by rw[hd];exact xO ae r x
  have ko:iS l=(decide (ae.getLast?.getD (-1)<x/\x<64)&&jE x r):=by rw[iS,hd,Gg _ _ _ _ hp]
  have jk:jE (-1) (ae++[x])=decide (ae.getLast?.getD (-1)<x/\x<64):=by rw[Gg _ _ _ _ hp,jE,Bool.and_true]
  have S8:=ZV hp (by omega);simp(disch:=omega) only[go_sem,seval,cc];refine aJ.pos (by omega) ?_;simp(disch:=omega) only[go_sem,seval,e1];refine aJ.intro (fun h1=>?_) (fun h1=>?_)<;>simp(disch:=omega) only[go_sem,seval,e1]
  .grind
  refine aJ.intro (fun h2=>?_) (fun h2=>?_)<;>simp(disch:=omega) only[go_sem,seval]
  .grind
  refine aJ.intro (fun h3=>?_) (fun h3=>?_)<;>simp(disch:=omega) only[go_sem,seval,e1]
  .obtain⟨dn,z,rfl⟩:∃dn z,ae=dn++[z]:=by
    rcases List.eq_nil_or_concat ae with rfl|⟨dn,z,rfl⟩
    .simp at h3
    .exact⟨dn,z,by simp⟩
   have e2:(encI l)[((((dn++[z]).length:Nat):Int)-1).toNat]? =some (.int .i64 z):=aae _ dn r z x l hd;rw[List.getLast?_concat,Option.getD_some]at ko jk;refine⟨by omega,?_⟩;rw[e2];refine aU ?_;refine aJ.intro (fun h4=>?_) (fun h4=>?_)<;>simp(disch:=omega) only[go_sem,seval]
   .grind
   .refine cd () ?_ ?_ rfl
    .rw[jk,decide_eq_true (by omega)]
    .simp(disch:=omega) only[go_sem,seval,List.length_append]
  .have bT:ae=[]:=List.length_eq_zero_iff.1 (by omega);subst bT;rw[List.getLast?_nil,Option.getD_none]at jk;refine cd () ?_ ?_ rfl
   .rw[jk,decide_eq_true (by omega)]
   .simp(disch:=omega) only[go_sem,seval]
 .rintro _ hp;simp(disch:=omega) only[go_sem,seval,cc];refine fE [] ?_;rw[iS,hp]
theorem alO{dn r}{y:Hd}(h:dn.all (fun x=>decide (1<=x.weight/\x.weight<=64))=true):(dn++y::r).all (fun x=>decide (1<=x.weight/\x.weight<=64))=(decide (1<=y.weight/\y.weight<=64)&&r.all (fun x=>decide (1<=x.weight/\x.weight<=64))):=by grind
def NR(dn:List Hd):Prop:=dn.all (fun x=>decide (1<=x.weight/\x.weight<=64))=true/\jE (-1) (dn.map Hd.eC)=true
def En(dn:List Hd):Int:=(dn.map Hd.eC).getLast?.getD (-1)
theorem alP{dn r y}(h:NR dn):tV (dn++y::r)=((decide (1<=y.weight/\y.weight<=64)&&r.all (fun x=>decide (1<=x.weight/\x.weight<=64)))&&(decide (En dn<y.eC/\y.eC<64)&&jE y.eC (r.map Hd.eC))):=by rw[tV,alO h.1,iS,List.map_append,List.map_cons,Gg _ _ _ _ h.2];rfl
theorem aaf{dn y}(h:NR dn)(h1:1<=y.weight/\y.weight<=64)(h2:En dn<y.eC/\y.eC<64):NR (dn++[y]):=by
 refine⟨?_,?_⟩
 .rw[List.all_append,h.1,List.all_cons,decide_eq_true h1];rfl
 .rw[List.map_append,List.map_cons,List.map_nil,Gg _ _ _ _ h.2];show(decide (En dn<y.eC/\y.eC<64)&&jE y.eC [])=true;rw[decide_eq_true h2];rfl
theorem alQ(Γ hs n h)(hl:hs.length<=1000)(j7:∀l∈hs,l.length<=1000):AC Γ 7 [.sl (fY hs) .free,.int .i64 n] h (.bool (j8 hs n)):=by
 refine az.drop ?_;refine cS [.tmp 4] Tryz.func7 ?_;simp(disch:=omega) only[go_sem,seval,Cg];refine aJ.intro (fun h1=>?_) (fun h1=>?_)<;>simp(disch:=omega) only[go_sem,seval];rotate_left
 .rw[j8,decide_eq_false h1,Bool.and_false]
 refine d_ (β:=Unit) hs [0,1,5] (fun ae _=>[(0,.sl (fY hs) .free),(1,.int .i64 n),(5,.int .i64 ae.length)]) (fun _=>h) (fun ae _ _=>ae.all tV=true) () ?_ rfl rfl ?_ ?_
 .simp(disch:=omega) only[go_sem,seval,List.length_nil]
 .rintro ae x r _ hd hp;have hlen:hs.length=ae.length+1+r.length:=by rw[hd];simp;omega
  have e1:(fY hs)[ae.length]? =some (.sl (x.map fU) .free):=by rw[hd];exact fZ ..
  have hx:x∈hs:=by rw[hd];simp
  have iD:=j7 x hx;have bad:tV x=false->j8 hs n=false:=fun e=>by rw[j8,hd,List.all_append,List.all_cons,e];simp
  simp(disch:=omega) only[go_sem,seval,Cg];refine aJ.pos (by omega) ?_;simp(disch:=omega) only[go_sem,seval,e1];refine d_ (β:=Unit) x [0,1,5,6,7] (fun dn _=>[(0,.sl (fY hs) .free),(1,.int .i64 n),(5,.int .i64 ae.length),(6,.sl (x.map fU) .free),(7,.int .i64 dn.length)]) (fun _=>h) (fun dn _ _=>NR dn) () ?_ rfl ⟨rfl,rfl⟩ ?_ ?_
  .simp(disch:=omega) only[go_sem,seval,List.length_nil]
  .rintro dn y r' _ bT hI;have alu:x.length=dn.length+1+r'.length:=by rw[bT];simp;omega
   have e2:(x.map fU)[dn.length]? =some (fU y):=by rw[bT];exact fZ ..
   have fC:=alP (r:=r') (y:=y) hI;rw[<-bT]at fC;have S8:=ZV hI.2 (by omega);have oh:En dn=(dn.map Hd.eC).getLast?.getD (-1):=rfl;rw[<-oh]at S8;have no:¬((1<=y.weight/\y.weight<=64)/\En dn<y.eC/\y.eC<64)->j8 hs n=false:=fun e=>bad (by grind);rw[fU]at e2;simp(disch:=omega) only[go_sem,seval,List.length_map];refine aJ.pos (by omega) ?_;simp(disch:=omega) only[go_sem,seval,e2];refine aJ.intro (fun h2=>?_) (fun h2=>?_)<;>simp(disch:=omega) only[go_sem,seval,e2]
   .rw[no (by omega)]
   refine aJ.intro (fun h3=>?_) (fun h3=>?_)<;>simp(disch:=omega) only[go_sem,seval,e2]
   .rw[no (by omega)]
   refine aJ.intro (fun h4=>?_) (fun h4=>?_)<;>simp(disch:=omega) only[go_sem,seval,e2]
   .rw[no (by omega)]
   refine aJ.intro (fun h5=>?_) (fun h5=>?_)<;>simp(disch:=omega) only[go_sem,seval]
   .rw[no (by omega)]
   refine aJ.intro (fun h6=>?_) (fun h6=>?_)<;>simp(disch:=omega) only[go_sem,seval,e2]
   .obtain⟨Eo,z,rfl⟩:∃Eo z,dn=Eo++[z]:=by
     rcases List.eq_nil_or_concat dn with rfl|⟨Eo,z,rfl⟩
     .simp at h6
     .exact⟨Eo,z,by simp⟩
    have e3:(x.map fU)[((((Eo++[z]).length:Nat):Int)-1).toNat]? =some (fU z):=aae _ Eo r' z y x bT;have NS:En (Eo++[z])=z.eC:=by simp_all
    rw[NS]at no S8;rw[fU]at e3;refine⟨by omega,?_⟩;rw[e3];refine aU ?_;refine aJ.intro (fun h7=>?_) (fun h7=>?_)<;>simp(disch:=omega) only[go_sem,seval]
    .rw[no (by omega)]
    .refine cd () ?_ ?_ rfl
     .exact aaf hI (by omega) (by rw[NS];omega)
     .simp(disch:=omega) only[go_sem,seval,List.length_append]
   .have alR:dn=[]:=List.length_eq_zero_iff.1 (by omega);subst alR;have NS:En []=-1:=rfl;refine cd () ?_ ?_ rfl
    .exact aaf hI (by omega) (by rw[NS];omega)
    .simp(disch:=omega) only[go_sem,seval]
  .rintro _ hI;simp(disch:=omega) only[go_sem,seval,List.length_map];refine fE [0,1,5] ?_;refine cd () ?_ ?_ rfl
   .have Nr:tV x=true:=by rw[tV,hI.1,iS,hI.2];rfl
    grind
   .simp(disch:=omega) only[go_sem,seval,List.length_append]
 .rintro _ hp;simp(disch:=omega) only[go_sem,seval,Cg];refine fE [] ?_;rw[j8,hp,decide_eq_true h1];rfl
def alS(hs:List (List Hd)):Bool:=hs.all (fun l=>decide (l.length<=70))&&decide (hs.length<=40)
theorem alT(who l)(hw:∀x∈l,1<=x.weight/\x.weight<=64):0<=sU who l/\sU who l<=64*l.length:=by
 induction l with
 |nil=>simp[sU]
 |cons x r ih=>
  have h1:=ih fun y hy=>hw y (by simp[hy]);have h2:=hw x (by simp);rw[sU,List.length_cons];split<;>omega
def aag(p:iq)(hs:List (List Hd)):Bool:=decide (p.kinds.length<=20/\p.bf.length<=40/\p.rules.length<=20)&&decide (dT p.change<=300)&&p.rules.all (fun r=>decide (dT r.x<=300))&&alS hs
def Ep(no:Int):Ex:= .mk 1 0 no (if no=0 then[97]else[98]) []
def aah(x:Ex):iq:=⟨[112],[[107]],[[97],[98]],[⟨[107],0,0,x⟩],Ep 1,1⟩
def aai:List (List Hd):=[[⟨1,1⟩,⟨2,3⟩],[⟨5,2⟩]]
def zd(x:Ex)(value:Int)(who:List Int):Bool:=((eZ (aah x) 0 value aai who).2==0)&&(eZ (aah x) 0 value aai who).1
def wX:Ex:= .mk 2 4 0 [97] []
def bX:Ex:= .mk 3 2 0 [] [Ep 0,Ep 1]
def uX:Ex:= .mk 4 10 0 [] [Ep 0,bX]
theorem m1:zd (Ep 0) 0 [2]=true:=by decide+kernel
theorem m2:zd (Ep 0) 0 [5]=false:=by decide+kernel
theorem m3:zd (Ep 0) 0 []=false:=by decide+kernel
theorem m4:zd wX 0 [2]=false:=by decide+kernel
theorem m5:zd wX 0 [1,2]=true:=by decide+kernel
theorem m6:zd bX 0 [1,2]=false:=by decide+kernel
theorem m7:zd bX 0 [1,5]=true:=by decide+kernel
theorem m8:zd uX 10 [1]=true:=by decide+kernel
theorem m9:zd uX 11 [1]=false:=by decide+kernel
theorem m10:zd uX 11 [2,5]=true:=by decide+kernel
def iM(p:iq)(kind value:Int)(hs:List (List Hd))(who:List Int):Bool:=
 aag p hs&&(decide (who.length<=64)&&(decide (dp p=0)&&(decide (0<=kind/\kind<p.kinds.length/\0<=value/\value<=1099511627776)&&(j8 hs p.bf.length&&iS who))))
structure ShH(hs:List (List Hd)):Prop where
 n:hs.length<=9223372036854775807
 l:∀l∈hs,l.length<=9223372036854775807
theorem OG{p}{kind value:Int}{hs who r}(hc:dp p=0)(hk:0<=kind/\kind<p.kinds.length)(hv:0<=value/\value<=1099511627776)(hH:j8 hs p.bf.length=true)(hp:iS who=true)(hr:p.rules[kind.toNat]? =some r):eZ p kind value hs who=(mc value hs who r.x,0):=by rw[eZ,if_neg (by simpa using hc),if_neg (by omega),hH,if_neg (by decide),hp,if_neg (by decide),hr];rfl
theorem TO{p hs who}(hc:dp p=0)(hH:j8 hs p.bf.length=true)(hp:iS who=true):uV p hs who=(mc 0 hs who p.change,0):=by rw[uV,if_neg (by simpa using hc),hH,if_neg (by decide),hp,if_neg (by decide)]
theorem OH{p}{kind:Int}(hc:dp p=0)(hk:0<=kind/\kind<p.kinds.length):∃r,p.rules[kind.toNat]? =some r/\(p.rules.map bY)[kind.toNat]? =some (bY r)/\r∈p.rules:=by have hlen:=NI hc;simp_all
theorem aob{hs no y}(hy:y∈gI hs no):gI hs no∈hs:=by rw[gI,List.getD_eq_getElem?_getD]at hy|-;grind
def ie(hs:List (List Hd))(i:Int):Bool:=hs.any fun l=>l.any fun y=>decide (y.eC=i)
theorem any_nil(l):sT [] l=false:=by rw[sT,List.any_eq_false];intro y _;simp[mz]
def TP(l:List Hd):List Hd:=l.map fun y=>⟨y.eC,1⟩
theorem aoc(who l):sT who (TP l)=sT who l:=by rw[sT,sT,TP,List.any_map];rfl
theorem wo{i j o cs}(h:j≠i):dd i cs (.ptr (some (j,o)))= .ptr (some (j,o)):=by rw[dd,if_neg h]
theorem Kh{α:Type}{i cs}(f)(H:∀x,dd i cs (f x)=f x)(l:List α):fB i cs (l.map f)=l.map f:=by rw[pW,List.map_map];simp_all
theorem Kk(i cs l):fB i cs (encI l)=encI l:=Kh _ (fun _=>rfl) l
theorem TQ(i N cs)(h1:cs.length=N)(h2:∀c∈cs,c.isAgg=false):dd i cs (.ms i 0 N N 1)= .sl cs .free:=by
 have eD:tQ cs 0 N N 1=true:=by simp only[tQ,Bool.and_eq_true,decide_eq_true_eq,List.all_eq_true,Bool.not_eq_true'];grind
 rw[dd,if_pos ⟨rfl,eD⟩,List.drop_zero,DS _ _ (by omega),<-h1,List.take_length]
theorem aod(a b):eI (a++b)=eI a++eI b:=by
 induction a with
 |nil=>simp[eI]
 |cons x r ih=>simp only[List.cons_append,eI,ih]
theorem abF(i:Nat)(cs:List AV):∀x:Ex,dd i cs (aK x)=aK x
 | .mk k n no s l=>by
  rw[mu];show AV.agg [.int .i64 k,.int .i64 n,.int .i64 no,.str ⟨⟨s⟩⟩,.sl (fB i cs (l.map aK)) .free]=_;have:fB i cs (l.map aK)=l.map aK:=by rw[pW,List.map_map];exact List.map_congr_left fun x hx=>abF i cs x
  rw[this]
theorem aoe(i cs)(l:List Ex):fB i cs (l.map aK)=l.map aK:=Kh _ (abF i cs) l
theorem aof(i cs)(l:List Tx):fB i cs (bq l)=bq l:=Kh _ (fun _=>rfl) l
def oC(r:Rl):List AV:=(bY r).cells
theorem zt(r):(oC r).length=8:=by rw[oC,Ji];rfl
theorem GL(r):oC r=[.str ⟨⟨r.kind⟩⟩,.int .i64 r.lK,.int .i64 r.g_,.int .i64 r.x.k,.int .i64 r.x.n,.int .i64 r.x.no,.str ⟨⟨r.x.name⟩⟩,.sl (r.x.l.map aK) .free]:=Ji r
theorem fj.sub{x y}(h:fj x)(hy:y∈x.l):fj y:=by cases x;exact h.mem y hy
theorem ap3{who l}(h:∀y∈l,1<=y.weight/\y.weight<=64):sT who l=decide (1<=sU who l):=by
 induction l with
 |nil=>rfl
 |cons y r ih=>
  have h1:=h y (by simp);have h2:=alT who r fun z hz=>h z (by simp[hz]);have e:sT who (y::r)=(mz who y.eC||sT who r):=List.any_cons;rw[e,ih fun z hz=>h z (by simp[hz]),sU];grind
end Go.Proofs.YtmfjlankeocaoaaGreatDoor
namespace Go.Proofs.YtmfjlankeocaoaaGreatDoor
open Go Go.Proofs Go.aS Go.RowKit
theorem xQ{v}(h:Typed Tryz.prog maxLen 3 v):∃n,v= .int .i64 n/\-9223372036854775808<=n/\n<=9223372036854775807:=by obtain⟨n,rfl,h1,h2⟩:=h.Dk Tryz.underlying3;simp only[IntKind.min,IntKind.max,IntKind.signed,IntKind.bits]at h1 h2;grind
theorem NY{v}(h:Typed Tryz.prog maxLen 9 v):∃s:Tx,v= .str ⟨⟨s⟩⟩/\s.length<=9223372036854775807:=by obtain⟨⟨⟨s⟩⟩,rfl,h1⟩:=h.Fz Tryz.underlying9;exact⟨s,rfl,by simpa [maxLen,ByteArray.size]using h1⟩
theorem aar{v}(h:Typed Tryz.prog maxLen 22 v):∃l:List Tx,v= .sl (bq l) .free/\l.length<=9223372036854775807/\∀s∈l,s.length<=9223372036854775807:=by
 obtain⟨rows,rfl,hl,hr⟩:=h.Gn Tryz.underlying22;obtain⟨l,rfl,hq⟩:=Er (enc:=fun s:Tx=>AV.str ⟨⟨s⟩⟩) (Q:=fun s=>s.length<=9223372036854775807) fun r hm=>by obtain⟨b,e,hb⟩:=NY (hr r hm);exact⟨b,e,hb⟩
 exact⟨l,rfl,by simpa [maxLen]using hl,hq⟩
theorem alY{v}(h:Typed Tryz.prog maxLen 30 v):∃l,v= .sl (encI l) .free/\l.length<=9223372036854775807:=by
 obtain⟨rows,rfl,hl,hr⟩:=h.Gn Tryz.underlying30;obtain⟨l,rfl,hq⟩:=Er (enc:=fun n:Int=>AV.int .i64 n) (Q:=fun n=>True) fun r hm=>by obtain⟨b,e,hb⟩:=xQ (hr r hm);exact⟨b,e,trivial⟩
 exact⟨l,rfl,by simpa [maxLen]using hl⟩
theorem aas:∀(k:Nat) (v:AV),SizeOf.sizeOf v<k->Typed Tryz.prog maxLen 26 v->∃x,v=aK x/\fj x
 |0,_,hk,_=>absurd hk (Nat.not_lt_zero _)
 |k+1,v,hk,h=>by
  obtain⟨ps,rfl,sw⟩:=h.NX Tryz.underlying26;obtain⟨a1,r1,rfl,p1,h1⟩:=sw.cons_inv;obtain⟨a2,r2,rfl,p2,h2⟩:=h1.cons_inv;obtain⟨a3,r3,rfl,p3,h3⟩:=h2.cons_inv;obtain⟨a4,r4,rfl,p4,h4⟩:=h3.cons_inv;obtain⟨a5,r5,rfl,p5,h5⟩:=h4.cons_inv;obtain rfl:=h5.JY;obtain⟨n1,rfl,_⟩:=xQ p1;obtain⟨n2,rfl,b1,b2⟩:=xQ p2;obtain⟨n3,rfl,_⟩:=xQ p3;obtain⟨s,rfl,hs⟩:=NY p4;obtain⟨rows,rfl,hl,hr⟩:=p5.Gn Tryz.underlying24;obtain⟨l,rfl,hq⟩:=Er (enc:=aK) (Q:=fj) fun r hm=>by refine aas k r ?_ (hr r hm);have:=List.sizeOf_lt_of_mem hm;simp only[List.flatMap_cons,AV.cells,List.flatMap_nil,List.append_nil,List.cons_append,List.nil_append,AV.agg.sizeOf_spec,List.cons.sizeOf_spec,AV.sl.sizeOf_spec,List.nil.sizeOf_spec]at hk;omega
  exact⟨.mk n1 n2 n3 s l,by simp[mu,AV.cells],.mk (by simpa [maxLen]using hl) hq hs b1 b2⟩
theorem aat{v}(h:Typed Tryz.prog maxLen 26 v):∃x,v=aK x/\fj x:=aas _ v (Nat.lt_succ_self _) h
theorem alZ{v}(h:Typed Tryz.prog maxLen 64 v):∃r,v=bY r/\(fj r.x/\r.kind.length<=9223372036854775807):=by obtain⟨ps,rfl,sw⟩:=h.NX Tryz.underlying64;obtain⟨a1,r1,rfl,p1,h1⟩:=sw.cons_inv;obtain⟨a2,r2,rfl,p2,h2⟩:=h1.cons_inv;obtain⟨a3,r3,rfl,p3,h3⟩:=h2.cons_inv;obtain⟨a4,r4,rfl,p4,h4⟩:=h3.cons_inv;obtain rfl:=h4.JY;obtain⟨s,rfl,hs⟩:=NY p1;obtain⟨n2,rfl,_⟩:=xQ p2;obtain⟨n3,rfl,_⟩:=xQ p3;obtain⟨x,rfl,hx⟩:=aat p4;exact⟨⟨s,n2,n3,x⟩,by simp[bY,AV.cells],hx,hs⟩
theorem al0{v}(h:Typed Tryz.prog maxLen 23 v):∃l:List Rl,v= .sl (l.map bY) .free/\l.length<=9223372036854775807/\∀r∈l,fj r.x/\r.kind.length<=9223372036854775807:=by obtain⟨rows,rfl,hl,hr⟩:=h.Gn Tryz.underlying23;obtain⟨l,rfl,hq⟩:=Er (enc:=bY) (Q:=fun r=>fj r.x/\r.kind.length<=9223372036854775807) fun r hm=>alZ (hr r hm);exact⟨l,rfl,by simpa [maxLen]using hl,hq⟩
theorem aau{v}(h:Typed Tryz.prog maxLen 28 v):∃p,v=iI p/\lO p:=by obtain⟨ps,rfl,sw⟩:=h.NX Tryz.underlying28;obtain⟨a1,r1,rfl,p1,h1⟩:=sw.cons_inv;obtain⟨a2,r2,rfl,p2,h2⟩:=h1.cons_inv;obtain⟨a3,r3,rfl,p3,h3⟩:=h2.cons_inv;obtain⟨a4,r4,rfl,p4,h4⟩:=h3.cons_inv;obtain⟨a5,r5,rfl,p5,h5⟩:=h4.cons_inv;obtain⟨a6,r6,rfl,p6,h6⟩:=h5.cons_inv;obtain rfl:=h6.JY;obtain⟨s,rfl,hs⟩:=NY p1;obtain⟨k,rfl,k1,k2⟩:=aar p2;obtain⟨o,rfl,o1,o2⟩:=aar p3;obtain⟨rs,rfl,q1,q2⟩:=al0 p4;obtain⟨x,rfl,hx⟩:=aat p5;obtain⟨m,rfl,_⟩:=xQ p6;exact⟨⟨s,k,o,rs,x,m⟩,by simp[iI,DT,AV.cells],hs,k1,k2,o1,o2,q1,fun r hr=>(q2 r hr).1,fun r hr=>(q2 r hr).2,hx⟩
theorem al2{v}(h:Typed Tryz.prog maxLen 69 v):∃x,v=fU x:=by obtain⟨ps,rfl,sw⟩:=h.NX Tryz.underlying69;obtain⟨a1,r1,rfl,p1,h1⟩:=sw.cons_inv;obtain⟨a2,r2,rfl,p2,h2⟩:=h1.cons_inv;obtain rfl:=h2.JY;obtain⟨n1,rfl,_⟩:=xQ p1;obtain⟨n2,rfl,_⟩:=xQ p2;exact⟨⟨n1,n2⟩,by simp[fU,AV.cells]⟩
theorem al3{v}(h:Typed Tryz.prog maxLen 67 v):∃l:List Hd,v= .sl (l.map fU) .free/\l.length<=9223372036854775807:=by
 obtain⟨rows,rfl,hl,hr⟩:=h.Gn Tryz.underlying67;obtain⟨l,rfl,hq⟩:=Er (enc:=fU) (Q:=fun _=>True) fun r hm=>by obtain⟨b,e⟩:=al2 (hr r hm);exact⟨b,e,trivial⟩
 exact⟨l,rfl,by simpa [maxLen]using hl⟩
theorem al4{v}(h:Typed Tryz.prog maxLen 29 v):∃hs,v= .sl (fY hs) .free/\ShH hs:=by obtain⟨rows,rfl,hl,hr⟩:=h.Gn Tryz.underlying29;obtain⟨l,rfl,hq⟩:=Er (enc:=fun r:List Hd=>AV.sl (r.map fU) .free) (Q:=fun r=>r.length<=9223372036854775807) fun r hm=>al3 (hr r hm);exact⟨l,rfl,by simpa [maxLen]using hl,hq⟩
end Go.Proofs.YtmfjlankeocaoaaGreatDoor
namespace Go.Proofs
open Go.Shelf
def Tryz.aav:Go.Shelf.Ren:=⟨fun|156=>79|165=>144|166=>145|169=>146|240=>199|241=>200|276=>253|277=>254|n=>n,fun|31=>22|9=>9|3=>3|4=>4|0=>0|20=>20|72=>206|76=>210|70=>203|37=>204|75=>209|127=>253|164=>289|5=>5|80=>212|n=>n,fun|n=>n⟩
theorem Tryz.aaw:Go.Proofs.Lays.n156 Tryz.prog Tryz.aav:={
 mixed:=by kernel_rfl
 f156:=Tryz.func79.trans (congrArg some (by kernel_rfl))
 f165:=Tryz.func144.trans (congrArg some (by kernel_rfl))
 f166:=Tryz.func145.trans (congrArg some (by kernel_rfl))
 f169:=Tryz.func146.trans (congrArg some (by kernel_rfl))
 f240:=Tryz.func199.trans (congrArg some (by kernel_rfl))
 f241:=Tryz.func200.trans (congrArg some (by kernel_rfl))
 f276:=Tryz.func253.trans (congrArg some (by kernel_rfl))
 f277:=Tryz.func254.trans (congrArg some (by kernel_rfl))
 t0:=Tryz.underlying0
 a0:=Tryz.isAgg0
 z0:=Tryz.sizeOf0
 v0:=Tryz.zeroValue0
 t3:=Tryz.underlying3
 a3:=Tryz.isAgg3
 z3:=Tryz.sizeOf3
 v3:=Tryz.zeroValue3
 t4:=Tryz.underlying4
 a4:=Tryz.isAgg4
 z4:=Tryz.sizeOf4
 v4:=Tryz.zeroValue4
 t9:=Tryz.underlying9
 a9:=Tryz.isAgg9
 z9:=Tryz.sizeOf9
 v9:=Tryz.zeroValue9
 t20:=Tryz.underlying20
 a20:=Tryz.isAgg20
 z20:=Tryz.sizeOf20
 v20:=Tryz.zeroValue20
 t31:=Tryz.underlying22
 a31:=Tryz.isAgg22
 z31:=Tryz.sizeOf22
 v31:=Tryz.zeroValue22
 t37:=Tryz.underlying204
 a37:=Tryz.isAgg204
 z37:=Tryz.sizeOf204
 v37:=Tryz.zeroValue204
 t70:=Tryz.underlying203
 a70:=Tryz.isAgg203
 z70:=Tryz.sizeOf203
 v70:=Tryz.zeroValue203
 t72:=Tryz.underlying206
 a72:=Tryz.isAgg206
 z72:=Tryz.sizeOf206
 v72:=Tryz.zeroValue206
 t75:=Tryz.underlying209
 a75:=Tryz.isAgg209
 z75:=Tryz.sizeOf209
 v75:=Tryz.zeroValue209
 t76:=Tryz.underlying210
 a76:=Tryz.isAgg210
 z76:=Tryz.sizeOf210
 v76:=Tryz.zeroValue210
 t127:=Tryz.underlying253
 a127:=Tryz.isAgg253
 z127:=Tryz.sizeOf253
 v127:=Tryz.zeroValue253
 t164:=Tryz.underlying289
 a164:=Tryz.isAgg289
 z164:=Tryz.sizeOf289
 v164:=Tryz.zeroValue289}
theorem Tryz.aax:Builder.Extra Tryz.prog Tryz.aav:={
 sizeBuilder:=by kernel_rfl
 liesBuilder:=by kernel_rfl
 t5:=Tryz.underlying5
 a5:=Tryz.isAgg5
 z5:=Tryz.sizeOf5
 v5:=Tryz.zeroValue5
 infoByte:=by kernel_rfl
 cellsByte:=by kernel_rfl
 sizeByte:=by kernel_rfl
 neB5:=by decide}
def Tryz.al5:Go.Shelf.Ren:=⟨fun|172=>158|244=>207|245=>208|247=>255|279=>256|280=>257|281=>258|282=>259|287=>280|316=>281|171=>78|205=>282|321=>287|322=>288|243=>143|246=>198|283=>249|284=>250|285=>251|286=>252|129=>237|317=>276|318=>277|319=>278|320=>279|337=>285|338=>286|n=>n,fun|9=>9|3=>3|75=>209|76=>210|4=>4|5=>5|167=>292|37=>204|0=>0|85=>293|2=>2|168=>295|53=>278|175=>309|46=>111|210=>313|127=>253|145=>322|143=>320|21=>21|171=>285|173=>287|212=>307|51=>276|20=>20|213=>308|232=>323|233=>324|80=>212|n=>n,fun|15=>3|16=>4|17=>1|18=>5|19=>6|n=>n⟩
theorem Tryz.al6:Go.Proofs.Lays.n172 Tryz.prog Tryz.al5:={
 mixed:=by kernel_rfl
 f129:=Tryz.func237.trans (congrArg some (by kernel_rfl))
 f171:=Tryz.func78.trans (congrArg some (by kernel_rfl))
 f172:=Tryz.func158.trans (congrArg some (by kernel_rfl))
 f205:=Tryz.func282.trans (congrArg some (by kernel_rfl))
 f243:=Tryz.func143.trans (congrArg some (by kernel_rfl))
 f244:=Tryz.func207.trans (congrArg some (by kernel_rfl))
 f245:=Tryz.func208.trans (congrArg some (by kernel_rfl))
 f246:=Tryz.func198.trans (congrArg some (by kernel_rfl))
 f247:=Tryz.func255.trans (congrArg some (by kernel_rfl))
 f279:=Tryz.func256.trans (congrArg some (by kernel_rfl))
 f280:=Tryz.func257.trans (congrArg some (by kernel_rfl))
 f281:=Tryz.func258.trans (congrArg some (by kernel_rfl))
 f282:=Tryz.func259.trans (congrArg some (by kernel_rfl))
 f283:=Tryz.func249.trans (congrArg some (by kernel_rfl))
 f284:=Tryz.func250.trans (congrArg some (by kernel_rfl))
 f285:=Tryz.func251.trans (congrArg some (by kernel_rfl))
 f286:=Tryz.func252.trans (congrArg some (by kernel_rfl))
 f287:=Tryz.func280.trans (congrArg some (by kernel_rfl))
 f316:=Tryz.func281.trans (congrArg some (by kernel_rfl))
 f317:=Tryz.func276.trans (congrArg some (by kernel_rfl))
 f318:=Tryz.func277.trans (congrArg some (by kernel_rfl))
 f319:=Tryz.func278.trans (congrArg some (by kernel_rfl))
 f320:=Tryz.func279.trans (congrArg some (by kernel_rfl))
 f321:=Tryz.func287.trans (congrArg some (by kernel_rfl))
 f322:=Tryz.func288.trans (congrArg some (by kernel_rfl))
 f337:=Tryz.func285.trans (congrArg some (by kernel_rfl))
 f338:=Tryz.func286.trans (congrArg some (by kernel_rfl))
 t0:=Tryz.underlying0
 a0:=Tryz.isAgg0
 z0:=Tryz.sizeOf0
 v0:=Tryz.zeroValue0
 t2:=Tryz.underlying2
 a2:=Tryz.isAgg2
 z2:=Tryz.sizeOf2
 v2:=Tryz.zeroValue2
 t3:=Tryz.underlying3
 a3:=Tryz.isAgg3
 z3:=Tryz.sizeOf3
 v3:=Tryz.zeroValue3
 t4:=Tryz.underlying4
 a4:=Tryz.isAgg4
 z4:=Tryz.sizeOf4
 v4:=Tryz.zeroValue4
 t5:=Tryz.underlying5
 a5:=Tryz.isAgg5
 z5:=Tryz.sizeOf5
 v5:=Tryz.zeroValue5
 t9:=Tryz.underlying9
 a9:=Tryz.isAgg9
 z9:=Tryz.sizeOf9
 v9:=Tryz.zeroValue9
 t20:=Tryz.underlying20
 a20:=Tryz.isAgg20
 z20:=Tryz.sizeOf20
 v20:=Tryz.zeroValue20
 t21:=Tryz.underlying21
 a21:=Tryz.isAgg21
 z21:=Tryz.sizeOf21
 v21:=Tryz.zeroValue21
 t37:=Tryz.underlying204
 a37:=Tryz.isAgg204
 z37:=Tryz.sizeOf204
 v37:=Tryz.zeroValue204
 t46:=Tryz.underlying111
 a46:=Tryz.isAgg111
 z46:=Tryz.sizeOf111
 v46:=Tryz.zeroValue111
 t51:=Tryz.underlying276
 a51:=Tryz.isAgg276
 z51:=Tryz.sizeOf276
 v51:=Tryz.zeroValue276
 t53:=Tryz.underlying278
 a53:=Tryz.isAgg278
 z53:=Tryz.sizeOf278
 v53:=Tryz.zeroValue278
 t75:=Tryz.underlying209
 a75:=Tryz.isAgg209
 z75:=Tryz.sizeOf209
 v75:=Tryz.zeroValue209
 t76:=Tryz.underlying210
 a76:=Tryz.isAgg210
 z76:=Tryz.sizeOf210
 v76:=Tryz.zeroValue210
 t85:=Tryz.underlying293
 a85:=Tryz.isAgg293
 z85:=Tryz.sizeOf293
 v85:=Tryz.zeroValue293
 t127:=Tryz.underlying253
 a127:=Tryz.isAgg253
 z127:=Tryz.sizeOf253
 v127:=Tryz.zeroValue253
 t143:=Tryz.underlying320
 a143:=Tryz.isAgg320
 z143:=Tryz.sizeOf320
 v143:=Tryz.zeroValue320
 t145:=Tryz.underlying322
 a145:=Tryz.isAgg322
 z145:=Tryz.sizeOf322
 v145:=Tryz.zeroValue322
 t167:=Tryz.underlying292
 a167:=Tryz.isAgg292
 z167:=Tryz.sizeOf292
 v167:=Tryz.zeroValue292
 t168:=Tryz.underlying295
 a168:=Tryz.isAgg295
 z168:=Tryz.sizeOf295
 v168:=Tryz.zeroValue295
 t171:=Tryz.underlying285
 a171:=Tryz.isAgg285
 z171:=Tryz.sizeOf285
 v171:=Tryz.zeroValue285
 t173:=Tryz.underlying287
 a173:=Tryz.isAgg287
 z173:=Tryz.sizeOf287
 v173:=Tryz.zeroValue287
 t175:=Tryz.underlying309
 a175:=Tryz.isAgg309
 z175:=Tryz.sizeOf309
 v175:=Tryz.zeroValue309
 t210:=Tryz.underlying313
 a210:=Tryz.isAgg313
 z210:=Tryz.sizeOf313
 v210:=Tryz.zeroValue313
 t212:=Tryz.underlying307
 a212:=Tryz.isAgg307
 z212:=Tryz.sizeOf307
 v212:=Tryz.zeroValue307
 t213:=Tryz.underlying308
 a213:=Tryz.isAgg308
 z213:=Tryz.sizeOf308
 t232:=Tryz.underlying323
 a232:=Tryz.isAgg323
 z232:=Tryz.sizeOf323
 v232:=Tryz.zeroValue323
 t233:=Tryz.underlying324
 a233:=Tryz.isAgg324
 z233:=Tryz.sizeOf324
 v233:=Tryz.zeroValue324
 g15:=by kernel_rfl
 g16:=by kernel_rfl
 g17:=by kernel_rfl
 g18:=by kernel_rfl
 g19:=by kernel_rfl}
def Tryz.al7:Go.Shelf.Ren:=⟨fun|171=>78|243=>143|246=>198|283=>249|284=>250|285=>251|286=>252|129=>237|317=>276|318=>277|319=>278|320=>279|337=>285|338=>286|n=>n,fun|3=>3|9=>9|2=>2|4=>4|171=>285|0=>0|53=>278|37=>204|5=>5|173=>287|212=>307|51=>276|20=>20|213=>308|46=>111|232=>323|233=>324|n=>n,fun|17=>1|18=>5|19=>6|n=>n⟩
theorem Tryz.al8:Go.Proofs.LaysM.n171 Tryz.prog Tryz.al7:={
 mixed:=by kernel_rfl
 f129:=Tryz.func237.trans (congrArg some (by kernel_rfl))
 f171:=Tryz.func78.trans (congrArg some (by kernel_rfl))
 f243:=Tryz.func143.trans (congrArg some (by kernel_rfl))
 f246:=Tryz.func198.trans (congrArg some (by kernel_rfl))
 f283:=Tryz.func249.trans (congrArg some (by kernel_rfl))
 f284:=Tryz.func250.trans (congrArg some (by kernel_rfl))
 f285:=Tryz.func251.trans (congrArg some (by kernel_rfl))
 f286:=Tryz.func252.trans (congrArg some (by kernel_rfl))
 f317:=Tryz.func276.trans (congrArg some (by kernel_rfl))
 f318:=Tryz.func277.trans (congrArg some (by kernel_rfl))
 f319:=Tryz.func278.trans (congrArg some (by kernel_rfl))
 f320:=Tryz.func279.trans (congrArg some (by kernel_rfl))
 f337:=Tryz.func285.trans (congrArg some (by kernel_rfl))
 f338:=Tryz.func286.trans (congrArg some (by kernel_rfl))
 t0:=Tryz.underlying0
 a0:=Tryz.isAgg0
 z0:=Tryz.sizeOf0
 v0:=Tryz.zeroValue0
 t2:=Tryz.underlying2
 a2:=Tryz.isAgg2
 z2:=Tryz.sizeOf2
 v2:=Tryz.zeroValue2
 t3:=Tryz.underlying3
 a3:=Tryz.isAgg3
 z3:=Tryz.sizeOf3
 v3:=Tryz.zeroValue3
 t4:=Tryz.underlying4
 a4:=Tryz.isAgg4
 z4:=Tryz.sizeOf4
 v4:=Tryz.zeroValue4
 t5:=Tryz.underlying5
 a5:=Tryz.isAgg5
 z5:=Tryz.sizeOf5
 v5:=Tryz.zeroValue5
 t9:=Tryz.underlying9
 a9:=Tryz.isAgg9
 z9:=Tryz.sizeOf9
 v9:=Tryz.zeroValue9
 t20:=Tryz.underlying20
 a20:=Tryz.isAgg20
 z20:=Tryz.sizeOf20
 v20:=Tryz.zeroValue20
 t37:=Tryz.underlying204
 a37:=Tryz.isAgg204
 z37:=Tryz.sizeOf204
 v37:=Tryz.zeroValue204
 t46:=Tryz.underlying111
 a46:=Tryz.isAgg111
 z46:=Tryz.sizeOf111
 v46:=Tryz.zeroValue111
 t51:=Tryz.underlying276
 a51:=Tryz.isAgg276
 z51:=Tryz.sizeOf276
 v51:=Tryz.zeroValue276
 t53:=Tryz.underlying278
 a53:=Tryz.isAgg278
 z53:=Tryz.sizeOf278
 v53:=Tryz.zeroValue278
 t171:=Tryz.underlying285
 a171:=Tryz.isAgg285
 z171:=Tryz.sizeOf285
 v171:=Tryz.zeroValue285
 t173:=Tryz.underlying287
 a173:=Tryz.isAgg287
 z173:=Tryz.sizeOf287
 v173:=Tryz.zeroValue287
 t212:=Tryz.underlying307
 a212:=Tryz.isAgg307
 z212:=Tryz.sizeOf307
 v212:=Tryz.zeroValue307
 t213:=Tryz.underlying308
 a213:=Tryz.isAgg308
 z213:=Tryz.sizeOf308
 t232:=Tryz.underlying323
 a232:=Tryz.isAgg323
 z232:=Tryz.sizeOf323
 v232:=Tryz.zeroValue323
 t233:=Tryz.underlying324
 a233:=Tryz.isAgg324
 z233:=Tryz.sizeOf324
 v233:=Tryz.zeroValue324
 g17:=by kernel_rfl
 g18:=by kernel_rfl
 g19:=by kernel_rfl
 i0:=by kernel_rfl
 i2:=by kernel_rfl
 i3:=by kernel_rfl
 i4:=by kernel_rfl
 i5:=by kernel_rfl
 i9:=by kernel_rfl
 i20:=by kernel_rfl
 i37:=by kernel_rfl
 i46:=by kernel_rfl
 i51:=by kernel_rfl
 i53:=by kernel_rfl
 i171:=by kernel_rfl
 i173:=by kernel_rfl
 i212:=by kernel_rfl
 i232:=by kernel_rfl
 i233:=by kernel_rfl
 m17:=by kernel_rfl
 m18:=by kernel_rfl
 m19:=by kernel_rfl}
def Tryz.aoO:Go.Shelf.Ren:=⟨fun|189=>123|125=>190|257=>189|128=>236|129=>237|294=>227|295=>228|296=>229|297=>230|298=>231|299=>232|216=>233|300=>234|301=>235|328=>266|329=>267|330=>268|331=>269|332=>270|215=>271|343=>283|n=>n,fun|28=>30|3=>3|46=>111|0=>0|51=>276|53=>278|4=>4|183=>270|182=>269|131=>258|5=>5|9=>9|218=>298|222=>302|228=>315|229=>316|n=>n,fun|n=>n⟩
theorem Tryz.aoP:Go.Proofs.Lays.n189 Tryz.prog Tryz.aoO:={
 mixed:=by kernel_rfl
 f125:=Tryz.func190.trans (congrArg some (by kernel_rfl))
 f128:=Tryz.func236.trans (congrArg some (by kernel_rfl))
 f129:=Tryz.func237.trans (congrArg some (by kernel_rfl))
 f189:=Tryz.func123.trans (congrArg some (by kernel_rfl))
 f215:=Tryz.func271.trans (congrArg some (by kernel_rfl))
 f216:=Tryz.func233.trans (congrArg some (by kernel_rfl))
 f257:=Tryz.func189.trans (congrArg some (by kernel_rfl))
 f294:=Tryz.func227.trans (congrArg some (by kernel_rfl))
 f295:=Tryz.func228.trans (congrArg some (by kernel_rfl))
 f296:=Tryz.func229.trans (congrArg some (by kernel_rfl))
 f297:=Tryz.func230.trans (congrArg some (by kernel_rfl))
 f298:=Tryz.func231.trans (congrArg some (by kernel_rfl))
 f299:=Tryz.func232.trans (congrArg some (by kernel_rfl))
 f300:=Tryz.func234.trans (congrArg some (by kernel_rfl))
 f301:=Tryz.func235.trans (congrArg some (by kernel_rfl))
 f328:=Tryz.func266.trans (congrArg some (by kernel_rfl))
 f329:=Tryz.func267.trans (congrArg some (by kernel_rfl))
 f330:=Tryz.func268.trans (congrArg some (by kernel_rfl))
 f331:=Tryz.func269.trans (congrArg some (by kernel_rfl))
 f332:=Tryz.func270.trans (congrArg some (by kernel_rfl))
 f343:=Tryz.func283.trans (congrArg some (by kernel_rfl))
 t0:=Tryz.underlying0
 a0:=Tryz.isAgg0
 z0:=Tryz.sizeOf0
 v0:=Tryz.zeroValue0
 t3:=Tryz.underlying3
 a3:=Tryz.isAgg3
 z3:=Tryz.sizeOf3
 v3:=Tryz.zeroValue3
 t4:=Tryz.underlying4
 a4:=Tryz.isAgg4
 z4:=Tryz.sizeOf4
 v4:=Tryz.zeroValue4
 t5:=Tryz.underlying5
 a5:=Tryz.isAgg5
 z5:=Tryz.sizeOf5
 v5:=Tryz.zeroValue5
 t9:=Tryz.underlying9
 a9:=Tryz.isAgg9
 z9:=Tryz.sizeOf9
 v9:=Tryz.zeroValue9
 t28:=Tryz.underlying30
 a28:=Tryz.isAgg30
 z28:=Tryz.sizeOf30
 v28:=Tryz.zeroValue30
 t46:=Tryz.underlying111
 a46:=Tryz.isAgg111
 z46:=Tryz.sizeOf111
 v46:=Tryz.zeroValue111
 t51:=Tryz.underlying276
 a51:=Tryz.isAgg276
 z51:=Tryz.sizeOf276
 v51:=Tryz.zeroValue276
 t53:=Tryz.underlying278
 a53:=Tryz.isAgg278
 z53:=Tryz.sizeOf278
 v53:=Tryz.zeroValue278
 t131:=Tryz.underlying258
 a131:=Tryz.isAgg258
 z131:=Tryz.sizeOf258
 v131:=Tryz.zeroValue258
 t182:=Tryz.underlying269
 a182:=Tryz.isAgg269
 z182:=Tryz.sizeOf269
 v182:=Tryz.zeroValue269
 t183:=Tryz.underlying270
 a183:=Tryz.isAgg270
 z183:=Tryz.sizeOf270
 v183:=Tryz.zeroValue270
 t218:=Tryz.underlying298
 a218:=Tryz.isAgg298
 z218:=Tryz.sizeOf298
 v218:=Tryz.zeroValue298
 t222:=Tryz.underlying302
 a222:=Tryz.isAgg302
 z222:=Tryz.sizeOf302
 v222:=Tryz.zeroValue302
 t228:=Tryz.underlying315
 a228:=Tryz.isAgg315
 z228:=Tryz.sizeOf315
 v228:=Tryz.zeroValue315
 t229:=Tryz.underlying316
 a229:=Tryz.isAgg316
 z229:=Tryz.sizeOf316
 v229:=Tryz.zeroValue316}
def Tryz.aoQ:Go.Shelf.Ren:=⟨fun|6=>130|15=>190|14=>192|28=>236|29=>237|20=>238|21=>239|22=>240|23=>241|24=>242|25=>243|26=>244|27=>245|46=>272|47=>267|48=>268|49=>273|50=>274|57=>284|n=>n,fun|22=>58|24=>30|25=>196|3=>3|39=>111|0=>0|53=>276|55=>278|4=>4|46=>270|45=>269|50=>258|5=>5|9=>9|66=>298|70=>302|76=>315|77=>316|n=>n,fun|n=>n⟩
theorem Tryz.aoR:Go.Proofs.SlLaysF.n6 Tryz.prog Tryz.aoQ:={
 mixed:=by kernel_rfl
 f6:=⟨Tryz.f130.name,by decide,Tryz.func130.trans (congrArg some (by kernel_rfl))⟩
 f14:=⟨Tryz.f192.name,by decide,Tryz.func192.trans (congrArg some (by kernel_rfl))⟩
 f15:=Tryz.func190.trans (congrArg some (by kernel_rfl))
 f20:=⟨Tryz.f238.name,by decide,Tryz.func238.trans (congrArg some (by kernel_rfl))⟩
 f21:=⟨Tryz.f239.name,by decide,Tryz.func239.trans (congrArg some (by kernel_rfl))⟩
 f22:=⟨Tryz.f240.name,by decide,Tryz.func240.trans (congrArg some (by kernel_rfl))⟩
 f23:=⟨Tryz.f241.name,by decide,Tryz.func241.trans (congrArg some (by kernel_rfl))⟩
 f24:=⟨Tryz.f242.name,by decide,Tryz.func242.trans (congrArg some (by kernel_rfl))⟩
 f25:=⟨Tryz.f243.name,by decide,Tryz.func243.trans (congrArg some (by kernel_rfl))⟩
 f26:=⟨Tryz.f244.name,by decide,Tryz.func244.trans (congrArg some (by kernel_rfl))⟩
 f27:=⟨Tryz.f245.name,by decide,Tryz.func245.trans (congrArg some (by kernel_rfl))⟩
 f28:=Tryz.func236.trans (congrArg some (by kernel_rfl))
 f29:=Tryz.func237.trans (congrArg some (by kernel_rfl))
 f46:=⟨Tryz.f272.name,by decide,Tryz.func272.trans (congrArg some (by kernel_rfl))⟩
 f47:=Tryz.func267.trans (congrArg some (by kernel_rfl))
 f48:=Tryz.func268.trans (congrArg some (by kernel_rfl))
 f49:=⟨Tryz.f273.name,by decide,Tryz.func273.trans (congrArg some (by kernel_rfl))⟩
 f50:=⟨Tryz.f274.name,by decide,Tryz.func274.trans (congrArg some (by kernel_rfl))⟩
 f57:=⟨Tryz.f284.name,by decide,Tryz.func284.trans (congrArg some (by kernel_rfl))⟩
 t0:=Tryz.underlying0
 a0:=Tryz.isAgg0
 z0:=Tryz.sizeOf0
 v0:=Tryz.zeroValue0
 t3:=Tryz.underlying3
 a3:=Tryz.isAgg3
 z3:=Tryz.sizeOf3
 v3:=Tryz.zeroValue3
 t4:=Tryz.underlying4
 a4:=Tryz.isAgg4
 z4:=Tryz.sizeOf4
 v4:=Tryz.zeroValue4
 t5:=Tryz.underlying5
 a5:=Tryz.isAgg5
 z5:=Tryz.sizeOf5
 v5:=Tryz.zeroValue5
 t9:=Tryz.underlying9
 a9:=Tryz.isAgg9
 z9:=Tryz.sizeOf9
 v9:=Tryz.zeroValue9
 t22:=Tryz.underlying58
 a22:=Tryz.isAgg58
 z22:=Tryz.sizeOf58
 v22:=Tryz.zeroValue58
 a24:=Tryz.isAgg30
 z24:=Tryz.sizeOf30
 t25:=Tryz.underlying196
 a25:=Tryz.isAgg196
 z25:=Tryz.sizeOf196
 v25:=Tryz.zeroValue196
 t39:=Tryz.underlying111
 a39:=Tryz.isAgg111
 z39:=Tryz.sizeOf111
 v39:=Tryz.zeroValue111
 t45:=Tryz.underlying269
 a45:=Tryz.isAgg269
 z45:=Tryz.sizeOf269
 v45:=Tryz.zeroValue269
 t46:=Tryz.underlying270
 a46:=Tryz.isAgg270
 z46:=Tryz.sizeOf270
 v46:=Tryz.zeroValue270
 t50:=Tryz.underlying258
 a50:=Tryz.isAgg258
 z50:=Tryz.sizeOf258
 v50:=Tryz.zeroValue258
 t53:=Tryz.underlying276
 a53:=Tryz.isAgg276
 z53:=Tryz.sizeOf276
 v53:=Tryz.zeroValue276
 t55:=Tryz.underlying278
 a55:=Tryz.isAgg278
 z55:=Tryz.sizeOf278
 v55:=Tryz.zeroValue278
 t66:=Tryz.underlying298
 a66:=Tryz.isAgg298
 z66:=Tryz.sizeOf298
 v66:=Tryz.zeroValue298
 t70:=Tryz.underlying302
 a70:=Tryz.isAgg302
 z70:=Tryz.sizeOf302
 v70:=Tryz.zeroValue302
 t76:=Tryz.underlying315
 a76:=Tryz.isAgg315
 z76:=Tryz.sizeOf315
 v76:=Tryz.zeroValue315
 t77:=Tryz.underlying316
 a77:=Tryz.isAgg316
 z77:=Tryz.sizeOf316
 v77:=Tryz.zeroValue316}
def Tryz.aoS:Go.Shelf.Ren:=⟨fun|20=>124|n=>n,fun|22=>30|3=>3|4=>4|0=>0|n=>n,fun|n=>n⟩
theorem Tryz.acu:Go.Proofs.Lays2.n20 Tryz.prog Tryz.aoS:={
 mixed:=by kernel_rfl
 f20:=Tryz.func124.trans (congrArg some (by kernel_rfl))
 t0:=Tryz.underlying0
 a0:=Tryz.isAgg0
 z0:=Tryz.sizeOf0
 v0:=Tryz.zeroValue0
 t3:=Tryz.underlying3
 a3:=Tryz.isAgg3
 z3:=Tryz.sizeOf3
 v3:=Tryz.zeroValue3
 t4:=Tryz.underlying4
 a4:=Tryz.isAgg4
 z4:=Tryz.sizeOf4
 v4:=Tryz.zeroValue4
 t22:=Tryz.underlying30
 a22:=Tryz.isAgg30
 z22:=Tryz.sizeOf30
 v22:=Tryz.zeroValue30
 i3:=by kernel_rfl}
end Go.Proofs
namespace Go.aS
open Go Go.RowKit
theorem Td{P Γ f args h v}(he:∀vs w,(callFunc f vs).run P w= .ok (.enter f vs) w)
  (H:∀(G) (w) (vs),Inv Γ G h w->b9 G args vs->Calls P f vs w fun e w'=>∃u,e= .returned u/\Below w.heap.size w w'/\(Γ 1000000=none->w.drawn<=w'.drawn)/\∀G,VR G v u):az P Γ f args h fun v' h'=>h'=h/\v'=v:=
 ⟨he,fun G w vs hI hv=>(H G w vs hI hv).mono fun e w' ⟨u,e1,hb,hd,hr⟩=>⟨u,G,v,h,e1,Gh.le.refl G,hI.later hb.size hb.os hb.tape hb.output hb.block hd,hr G,rfl,rfl⟩⟩
theorem al9{P Γ G h w}(hI:Inv Γ G h w){name g}(hg:P.globalNamed name=some g){k zs}(h1:Γ g=some (zs.map (AV.int k)))(h2:Γ (1000001+g)=some []):Go.Lib.TabIs P w name k zs:=by
 obtain⟨vals,T,z,e1,e2⟩:=hI.k_ g _ h2 h1;have dN:g<G.w0.heap.size:=(Array.getElem?_eq_some_iff.1 e1).1;have e3:w.heap[g]? =some (.cells vals T z):=(hI.below.block g dN).trans e1;have hv:=hI.kn g _ h1;rw[Go.Lib.TabIs,World.var?,hg];simp only[Option.bind_some,e3,Option.some.injEq];apply Array.ext_getElem?;intro j;rw[List.length_map]at e2;by_cases hj:j<zs.length
 .have ej:(zs.map (AV.int k))[j]? =some (.int k zs[j]):=by rw[List.getElem?_map,List.getElem?_eq_getElem hj];rfl
  cases hv with
  |bS mL hF yF=>
   have a1:=hI.fix _ _ _ (hF j _ ej);rw[Nat.zero_add,cell_of e3]at a1;have a2:=yF j _ ej;rw[a1];generalize mL j=y at a2;cases a2;simp[hj]
 grind
end Go.aS
namespace Go.Proofs.YtmfjlankeocaoaaGreatDoor.Sx
open Go Go.Proofs Go.aS Go.RowKit
def powC:List AV:=Lib.pow10Tab.map (AV.int .u64)
theorem NZ:Tryz.prog.globalNamed "internal/strconv.uint64pow10"=some 1:=by kernel_rfl
theorem aay(Γ)(gH:Γ 1=some powC/\Γ 1000002=some [])(n h)(h0:0<=n)(h1:n<=9223372036854775807):
  AC Γ 78 [.int .i64 n] h (.str ⟨⟨Lib.itoa n⟩⟩):=by
 refine Td (fun vs w=>xb Tryz.func78 rfl rfl vs w) fun G w vs hI hv=>?_;obtain rfl:vs= #[.int .i64 n]:=by
  obtain⟨l⟩:=vs;obtain⟨hl,hv⟩:=hv;match l,hl with
  |[a],_=>
   have h0:VR G (.int .i64 n) a:=hv 0 _ rfl;cases h0;rfl
 refine(Go.Proofs.Any.strconv_Itoa Tryz.al8 n (by omega) h1 w (al9 hI NZ gH.1 gH.2)).mono ?_;rintro e w' ⟨rfl,k,os,rfl⟩;exact⟨_,rfl,⟨rfl,rfl,rfl,by simp[Sort.grow,World.drewN],fun j hj=>by simp only[Sort.grow,World.drewN];rw[Array.getElem?_append_left hj]⟩,fun _=>by simp[Sort.grow,World.drewN],fun G=> .str _⟩
theorem al_(Γ)(s:Tx)(n h)(hl:s.length<=18)(hs:Lib.atoi s=some n):
  AC Γ 158 [.str ⟨⟨s⟩⟩] h (.tuple [.int .i64 n,.nilIface]):=by
 refine Td (fun vs w=>xb Tryz.func158 rfl rfl vs w) fun G w vs hI hv=>?_;obtain rfl:vs= #[.string ⟨⟨s⟩⟩]:=by
  obtain⟨l⟩:=vs;obtain⟨hl,hv⟩:=hv;match l,hl with
  |[a],_=>
   have h0:VR G (.str ⟨⟨s⟩⟩) a:=hv 0 _ rfl;cases h0;rfl
 refine(Go.Proofs.Any.strconv_Atoi Tryz.al6 ⟨⟨s⟩⟩ n hl hs w).mono ?_;rintro e w' ⟨rfl,t,rfl⟩;refine⟨_,rfl,Joins.below_bytesWorld _ w _ _ (Nat.le_refl _),fun _=>?_,fun G=> .tuple rfl fun j c e=>?_⟩
 .simp only[Lib.bytesWorld,World.freeze];simp_all
 .match j,e with
  |0,e=>cases e;exact .int _ _
  |1,e=>cases e;exact .nilIface
theorem ama(Γ)(gH:Γ 1000000≠none)(xs:List Tx)(sep:Tx)(h)(hn:xs.length<=1000000)(hlen:(Lib.join xs sep).length<=140737488355328):
  AC Γ 79 [.sl (bq xs) .free,.str ⟨⟨sep⟩⟩] h (.str ⟨⟨Lib.join xs sep⟩⟩):=by
 refine Td (fun vs w=>xb Tryz.func79 rfl rfl vs w) fun G w vs hI hv=>?_;obtain⟨u,rfl,hu⟩:∃u,vs= #[u,.string ⟨⟨sep⟩⟩]/\VR G (.sl (bq xs) .free) u:=by
  obtain⟨l⟩:=vs;obtain⟨hl,hv⟩:=hv;match l,hl with
  |[a,b],_=>
   have h1:VR G (.str ⟨⟨sep⟩⟩) b:=hv 1 _ rfl;cases h1;exact⟨a,rfl,hv 0 _ rfl⟩
 have fin:∀e w',(e=Ending.returned (.string ⟨⟨Lib.join xs sep⟩⟩)/\Below w.heap.size w w')->∃u,e= .returned u/\Below w.heap.size w w'/\(Γ 1000000=none->w.drawn<=w'.drawn)/\∀G,VR G (.str ⟨⟨Lib.join xs sep⟩⟩) u:=fun e w' h=>⟨_,h.1,h.2,fun e=>absurd e gH,fun G=> .str _⟩;cases hu with
 |sl vals jc iT cj hF yF cP=>
  rename_i a cap sz;have iD:(bq xs).length=xs.length:=by simp[bq]
  rw[iD]at jc|-;cases xs with
  |nil=>
   refine(Go.Proofs.Any.strings_Join_none Tryz.aaw Tryz.aax a cap ⟨⟨sep⟩⟩ w).mono fun e w' hh=>fin e w' ⟨hh.1,hh.2▸Below.refl _ _⟩
  |cons x xs=>
   have h0:(bq (x::xs))[0]? =some (.str ⟨⟨x⟩⟩):=rfl;obtain⟨b,o,rfl,hb⟩:=hF 0 _ 0 _ h0 rfl;have s1:sz=1:=(cj 0 _ h0).symm;subst s1;have key:=Go.Proofs.Any.strings_Join Tryz.aaw Tryz.aax b o cap ((x::xs).map fun s=>(⟨⟨s⟩⟩:ByteArray)) ⟨⟨sep⟩⟩ w (fun j y e=>?_) (hI.C_ hb) (by rw[List.length_map];omega) (by rw[List.length_map];exact jc) ?_
   .rw[List.length_map]at key;refine key.mono fun e w' hh=>fin e w' ⟨?_,hh.2⟩;rw[hh.1,List.map_map];simp[Function.comp_def]
   .rw[List.getElem?_map]at e;obtain⟨z,hz,rfl⟩:=Option.map_eq_some_iff.1 e;have ez:(bq (x::xs))[j]? =some (.str ⟨⟨z⟩⟩):=by rw[bq,List.getElem?_map,hz];rfl
    obtain⟨b2,o2,e2,k2⟩:=hF j _ 0 _ ez rfl;cases e2;have k3:=yF j _ 0 _ ez rfl;have:=hI.fix _ _ _ k2;rw[Nat.mul_one,Nat.add_zero]at this;rw[this];generalize vals j 0=y at k3;cases k3;rfl
   .rw[List.map_map];simpa [Function.comp_def]using hlen
end Go.Proofs.YtmfjlankeocaoaaGreatDoor.Sx
namespace lV
def GZ(q:Nat):Prop:=1<q/\∀d,d∣q->d=1\/d=q
theorem GZ.dvd{q}(hq:GZ q){a b}(h:q∣a*b):q∣a\/q∣b:=by
 rcases hq.2 (Nat.gcd a q) (Nat.gcd_dvd_right a q)with e|e
 .exact .inr ((Nat.Coprime.dvd_of_dvd_mul_left (Nat.Coprime.symm e)) h)
 .exact .inl (e▸Nat.gcd_dvd_left a q)
section
variable {q:Nat} [NeZero q] (hq:GZ q)
include hq
theorem O8{a b:Fin q}(h:a*b=0):a=0\/b=0:=by
 have h1:(a.val*b.val)%q=0:=by have:=congrArg Fin.val h;rw[Fin.val_mul]at this;simpa using this
 rcases hq.dvd (Nat.dvd_of_mod_eq_zero h1)with h|h
 .left;apply Fin.ext;have:=Nat.mod_eq_zero_of_dvd h;rw[Nat.mod_eq_of_lt a.isLt]at this;simpa using this
 .right;apply Fin.ext;have:=Nat.mod_eq_zero_of_dvd h;rw[Nat.mod_eq_of_lt b.isLt]at this;simpa using this
theorem cancel{a b c:Fin q}(ha:a≠0)(h:a*b=a*c):b=c:=by
 have:a*(b-c)=0:=by grind
 rcases O8 hq this with h|h
 .exact absurd h ha
 .grind
end
def pw{q:Nat}[NeZero q](x:Fin q):Nat->Fin q
 |0=>1
 |n+1=>pw x n*x
def ta{q:Nat}[NeZero q]:List (Fin q)->Fin q
 |[]=>1
 |x::r=>x*ta r
section
variable {q:Nat} [NeZero q]
theorem adB(x:Fin q):∀n,pw (x*x) n=pw x (2*n)
 |0=>rfl
 |n+1=>by rw[pw,adB x n,show 2*(n+1)=2*n+1+1 from by omega,pw,pw];grind
theorem adC(x:Fin q):∀l:List (Fin q),ta (l.map (x*·))=pw x l.length*ta l
 |[]=>by simp only[List.map_nil,ta,List.length_nil,pw];grind
 |y::r=>by rw[List.map_cons,ta,adC x r,List.length_cons,pw,ta];grind
theorem aqD{l m:List (Fin q)}(h:l.Perm m):ta l=ta m:=by
 induction h with
 |nil=>rfl
 |cons x _ ih=>rw[ta,ta,ih]
 |swap x y l=>simp only[ta];grind
 |trans _ _ i1 i2=>rw[i1,i2]
end
theorem adD{α:Type}[DecidableEq α]:∀(a l:List α),a.Nodup->(∀b∈a,b∈l)->a.length<=l.length
 |[],_,_,_=>Nat.zero_le _
 |x::a,l,hn,hs=>by obtain⟨h1,h2⟩:=List.nodup_cons.1 hn;have hx:x∈l:=hs x (by simp);have:=adD a (l.erase x) h2 fun b hb=>(List.mem_erase_of_ne (fun e=>h1 (by rw[<-e];exact hb))).2 (hs b (by simp[hb]));grind
section
variable {q:Nat} [NeZero q] (hq:GZ q)
def se(q:Nat)[NeZero q]:List (Fin q):=(List.finRange q).filter fun x=>decide (x≠0)
theorem adE(x):x∈se q<->x≠0:=by simp[se,List.mem_finRange]
theorem adF:(se q).Nodup:=(List.nodup_finRange q).sublist List.filter_sublist
theorem aqE:(se q).length+1=q:=by
 obtain⟨n,rfl⟩:∃n,q=n+1:=⟨q-1,by have:=Nat.pos_of_ne_zero (NeZero.ne q);omega⟩;have h0:((List.finRange n).map Fin.succ).filter (fun x=>decide (x≠0))=(List.finRange n).map Fin.succ:=by rw[List.filter_eq_self];intro x hx;obtain⟨y,_,rfl⟩:=List.mem_map.1 hx;simp[Fin.succ_ne_zero]
 rw[se,List.finRange_succ,List.filter_cons_of_neg (by simp),h0,List.length_map,List.length_finRange]
include hq
theorem adG{x:Fin q}(hx:x≠0):pw x (q-1)=1:=by
 have hp:((se q).map (x*·)).Perm (se q):=by
  have hn:((se q).map (x*·)).Nodup:=by refine List.pairwise_map.2 (adF.imp fun {a b} nj e=>nj (cancel hq hx e))
  have hs:∀b∈(se q).map (x*·),b∈se q:=fun b hb=>by
   obtain⟨a,ha,rfl⟩:=List.mem_map.1 hb;rw[adE]at ha|-;intro e;rcases O8 hq e with e|e
   .exact hx e
   .exact ha e
  refine(List.perm_ext_iff_of_nodup hn adF).2 fun b=>⟨hs b,fun hb=>?_⟩;apply Classical.byContradiction;intro cV;have:=adD (b::(se q).map (x*·)) (se q) (List.nodup_cons.2 ⟨cV,hn⟩) fun c hc=>by grind
  simp at this;omega
 have h1:=aqD hp;rw[adC]at h1;have h0:∀l:List (Fin q),(∀y∈l,y≠0)->ta l≠0:=fun l=>by
  induction l with
  |nil=>
   intro _ e;have:=congrArg Fin.val e;have h1:(1:Fin q).val=1:=by have:=hq.1;show 1%q=1;exact Nat.mod_eq_of_lt this
   rw[ta,h1]at this;simp at this
  |cons y r ih=>
   intro h e;rcases O8 hq e with e|e
   .exact h y (by simp) e
   grind
 have h2:=h0 (se q) fun y hy=>(adE y).1 hy;have h3:(se q).length=q-1:=by have:=aqE (q:=q);omega
 rw[h3]at h1;have:ta (se q)*pw x (q-1)=ta (se q)*1:=by grind
 exact cancel hq h2 this
end
def G4(q:Nat):Nat->Nat->Bool
 |0,lo=>q%(lo+2) !=0
 |k+1,lo=>G4 q k lo&&G4 q k (lo+2^k)
theorem UL{q:Nat}:∀(k lo:Nat),G4 q k lo=true->∀d,lo<=d->d<lo+2^k->q%(d+2)≠0
 |0,lo,h,d,h1,h2=>by
  have:d=lo:=by simp at h2;omega
  subst this;simpa [G4]using h
 |k+1,lo,h,d,h1,h2=>by
  rw[G4,Bool.and_eq_true]at h;rw[Nat.pow_succ]at h2;by_cases hd:d<lo+2^k
  .exact UL k lo h.1 d h1 hd
  .exact UL k (lo+2^k) h.2 d (by omega) (by omega)
abbrev G5:Nat:=1073741789
theorem aqF:G4 G5 15 0=true:=by decide+kernel
theorem UM:GZ G5:=by
 refine⟨by decide,fun d hd=>?_⟩;obtain⟨e,he⟩:=hd;have key:∀a b:Nat,G5=a*b->a<=b->a=1:=fun a b h nj=>by
  apply Classical.byContradiction;intro h1;have h0:a≠0:=fun e=>by grind
  have dN:a<32768+2:=by apply Classical.byContradiction;intro sA;have:32770*32770<=a*b:=Nat.mul_le_mul (by omega) (by omega);rw[<-h]at this;exact absurd this (by decide)
  have:=UL 15 0 aqF (a-2) (Nat.zero_le _) (by simp;omega);rw[show a-2+2=a from by omega]at this;exact this (Nat.mod_eq_zero_of_dvd ⟨b,h⟩)
 rcases Nat.le_total d e with h|h
 .exact .inl (key d e he h)
 grind
end lV
namespace lV
section
variable {q:Nat} [NeZero q] (hq:GZ q)
def ev(x:Fin q):List (Fin q)->Fin q
 |[]=>0
 |c::r=>c+x*ev x r
def dv(a:Fin q):List (Fin q)->List (Fin q)
 |[]=>[]
 |_::r=>match r with
  |[]=>[]
  |d::r=>ev a (d::r)::dv a (d::r)
theorem UN(a:Fin q):∀c:List (Fin q),(dv a c).length=c.length-1
 |[]=>rfl
 |[_]=>rfl
 |_::d::r=>by rw[dv,List.length_cons,UN a (d::r)];simp
theorem UO(a x:Fin q):∀c:List (Fin q),ev x c-ev a c=(x-a)*ev x (dv a c)
 |[]=>by simp only[ev,dv];grind
 |[c]=>by simp only[ev,dv];grind
 |c::d::r=>by have ih:=UO a x (d::r);have e1:ev x (c::d::r)=c+x*ev x (d::r):=rfl;have e2:ev a (c::d::r)=c+a*ev a (d::r):=rfl;have e3:ev x (dv a (c::d::r))=ev a (d::r)+x*ev x (dv a (d::r)):=rfl;grind
include hq
theorem adH:∀(c xs:List (Fin q)),xs.Nodup->c.length<=xs.length->(∀x∈xs,ev x c=0)->ev 0 c=0
 |[],_,_,_,_=>rfl
 |c0::c,[],_,h,_=>by simp at h
 |c0::c,a::xs,hn,hl,h=>by
  obtain⟨h1,h2⟩:=List.nodup_cons.1 hn;have ha:=h a (by simp);have hd:∀x∈xs,ev x (dv a (c0::c))=0:=fun x hx=>by
   have e:=UO a x (c0::c);rw[h x (by simp[hx]),ha]at e;have e':(x-a)*ev x (dv a (c0::c))=0:=by grind
   rcases O8 hq e' with e|e
   .grind
   .exact e
  have ih:=adH (dv a (c0::c)) xs h2 (by rw[UN];simp at hl|-;omega) hd;have e:=UO a 0 (c0::c);rw[ih,ha]at e;grind
 termination_by c=>c.length
 decreasing_by simp[UN]
omit hq
def times(k:Fin q):Fin q->List (Fin q)->List (Fin q)
 |b,[]=>[-(k*b)]
 |b,c::r=>(c-k*b)::times k c r
theorem adI(k:Fin q):∀(c:List (Fin q)) (b:Fin q),(times k b c).length=c.length+1
 |[],_=>rfl
 |c::r,_=>by rw[times,List.length_cons,adI k r];rfl
theorem adJ(k x:Fin q):∀(c:List (Fin q)) (b:Fin q),ev x (times k b c)=(1-k*x)*ev x c-k*b
 |[],b=>by simp only[times,ev];grind
 |c::r,b=>by have ih:=adJ k x r c;rw[times,ev,ih,ev];generalize ev x r=A at*;grind
theorem O9(x:Fin q):∀(c:List (Fin q)) (n:Nat),ev x (c++List.replicate n 0)=ev x c
 |[],0=>rfl
 |[],n+1=>by have:=O9 x [] n;rw[List.nil_append]at this;show(0:Fin q)+x*ev x (List.replicate n 0)=0;rw[this];show(0:Fin q)+x*0=0;grobner
 |c::r,n=>by rw[List.cons_append,ev,O9 x r n,ev]
include hq
theorem aqG{x:Fin q}(hx:x≠0):∃y,y*x=1:=by
 refine⟨pw x (q-2),?_⟩;have h:=adG hq hx;have:q-1=q-2+1:=by have:=hq.1;omega
 rw[this,pw]at h;exact h
theorem aqH(s):∀(xs:List (Fin q)) (n),(∀x∈xs,x≠0)->xs.length<=n->∃c,c.length=n/\(∀x∈xs,ev x (s::c)=0):=by
 have main:∀xs:List (Fin q),(∀x∈xs,x≠0)->∃c:List (Fin q),c.length=xs.length/\∀x∈xs,ev x (s::c)=0:=by
  intro xs;induction xs with
  |nil=>grind
  |cons a xs ih=>
   intro h;obtain⟨c,h1,h2⟩:=ih fun x hx=>h x (by simp[hx]);obtain⟨k,hk⟩:=aqG hq (h a (by simp));refine⟨times k s c,by rw[adI,h1];rfl,fun x hx=>?_⟩;have e:ev x (s::times k s c)=(1-k*x)*ev x (s::c):=by rw[ev,ev,adJ];generalize ev x c=A;grind
   grind
 intro xs n hx hl;obtain⟨c,h1,h2⟩:=main xs hx;refine⟨c++List.replicate (n-xs.length) 0,by simp;omega,fun x hx=>?_⟩;rw[<-List.cons_append,O9];exact h2 x hx
end
end lV
namespace lV
section
variable {q:Nat} [NeZero q]
def sm(f:Nat->Fin q):Nat->Fin q
 |0=>0
 |n+1=>sm f n+f n
theorem tg{f g:Nat->Fin q}:∀{n:Nat},(∀i<n,f i=g i)->sm f n=sm g n
 |0,_=>rfl
 |n+1,h=>by rw[sm,sm,tg (n:=n) fun i hi=>h i (by omega),h n (by omega)]
theorem CT{f:Nat->Fin q}:∀{n:Nat},(∀i<n,f i=0)->sm f n=0
 |0,_=>rfl
 |n+1,h=>by rw[sm,CT (n:=n) fun i hi=>h i (by omega),h n (by omega)];grobner
theorem O_(f g:Nat->Fin q):∀n,sm (fun i=>f i+g i) n=sm f n+sm g n
 |0=>by simp only[sm];grobner
 |n+1=>by rw[sm,sm,sm,O_ f g n];grobner
theorem CU(a:Fin q)(f:Nat->Fin q):∀n,sm (fun i=>a*f i) n=a*sm f n
 |0=>by simp only[sm];grobner
 |n+1=>by rw[sm,sm,CU a f n];grobner
theorem UP(f:Nat->Nat->Fin q)(m:Nat):∀n,sm (fun i=>sm (f i) m) n=sm (fun j=>sm (fun i=>f i j) n) m
 |0=>(CT fun _ _=>rfl).symm
 |n+1=>by rw[sm,UP f m n,<-O_];exact tg fun j _=>rfl
theorem KZ{f:Nat->Fin q}{k:Nat}:∀{n:Nat},k<n->(∀i<n,i≠k->f i=0)->sm f n=f k
 |0,h,_=>absurd h (Nat.not_lt_zero _)
 |n+1,h,h0=>by
  rw[sm];by_cases hk:k=n
  .subst hk;rw[CT fun i hi=>h0 i (by omega) (by omega)];grobner
  .rw[KZ (k:=k) (n:=n) (by omega) fun i hi cV=>h0 i (by omega) cV,h0 n (by omega) (by omega)];grobner
def Sp(T0:Nat->Nat->Fin q)(m W:Nat)(x:Nat->Fin q):Prop:=∃a:Nat->Fin q,∀k<W,x k=sm (fun j=>a j*T0 j k) m
theorem Sp.self{T0:Nat->Nat->Fin q}{m W i}(hi:i<m):Sp T0 m W (T0 i):=by refine⟨fun j=>if j=i then 1 else 0,fun k _=>?_⟩;rw[KZ (k:=i) hi fun j _ cV=>by simp only[if_neg cV];grobner];simp only[if_pos];grobner
theorem Sp.smul{T0 m W x}(h:Sp T0 m W x)(n:Fin q):Sp T0 m W fun k=>n*x k:=by obtain⟨a,ha⟩:=h;refine⟨fun j=>n*a j,fun k hk=>?_⟩;simp only;rw[ha k hk,<-CU];exact tg fun j _=>by grobner
theorem Sp.add{T0 m W}{x y:Nat->Fin q}(h:Sp T0 m W x)(h2:Sp T0 m W y):Sp T0 m W fun k=>x k+y k:=by obtain⟨a,ha⟩:=h;obtain⟨b,hb⟩:=h2;refine⟨fun j=>a j+b j,fun k hk=>?_⟩;simp only;rw[ha k hk,hb k hk,<-O_];exact tg fun j _=>by grobner
theorem Sp.congr{T0 m W}{x y:Nat->Fin q}(h:Sp T0 m W x)(e:∀k<W,y k=x k):Sp T0 m W y:=by obtain⟨a,ha⟩:=h;exact⟨a,fun k hk=>(e k hk).trans (ha k hk)⟩
def dot(x w:Nat->Fin q)(W:Nat):Fin q:=sm (fun k=>x k*w k) W
def G6(T:Nat->Nat->Fin q)(m W:Nat)(w:Nat->Fin q):Prop:=∀i<m,dot (T i) w W=0
theorem aqI(x y w)(n:Fin q)(W):dot (fun k=>x k+n*y k) w W=dot x w W+n*dot y w W:=by rw[dot,dot,dot,<-CU,<-O_];exact tg fun k _=>by grobner
theorem adK(y w)(n:Fin q)(W):dot (fun k=>n*y k) w W=n*dot y w W:=by rw[dot,dot,<-CU];exact tg fun k _=>by grobner
theorem adL{x y w:Nat->Fin q}{W}(h:∀k<W,x k=y k):dot x w W=dot y w W:=tg fun k hk=>by rw[h k hk]
structure qY(T0 T:Nat->Nat->Fin q)(m W c:Nat)(p:List Nat):Prop where
 le:p.length<=m
 lt:∀(j x:Nat),p[j]? =some x->x<c
 one:∀(j x:Nat),p[j]? =some x->T j x=1
 zero:∀(j x:Nat),p[j]? =some x->∀i<m,i≠j->T i x=0
 rest:∀i,p.length<=i->i<m->∀k<c,T i k=0
 Pa:∀w,G6 T m W w<->G6 T0 m W w
 sp:∀i<m,Sp T0 m W (T i)
theorem qY.start(T0:Nat->Nat->Fin q)(m W):qY T0 T0 m W 0 []:=
 ⟨Nat.zero_le _,fun j x h=>by simp at h,fun j x h=>by simp at h,fun j x h=>by simp at h,fun _ _ _ k hk=>absurd hk (Nat.not_lt_zero _),fun _=>Iff.rfl,fun _ hi=> .self hi⟩
theorem qY.skip{T0 T:Nat->Nat->Fin q}{m W c p}(h:qY T0 T m W c p)(h0:∀i,p.length<=i->i<m->T i c=0):qY T0 T m W (c+1) p:=
 {h with
  lt:=fun j x e=>Nat.lt_succ_of_lt (h.lt j x e)
  rest:=fun i h1 h2 k hk=>by
   by_cases e:k=c
   .subst e;exact h0 i h1 h2
   .exact h.rest i h1 h2 k (by omega)}
def tn(T:Nat->Nat->Fin q)(r k c:Nat)(n:Fin q):Nat->Nat->Fin q:=
 let T1:=fun i=>if i=r then T k else if i=k then T r else T i
 fun i x=>if i=r then n*T k x else T1 i x+-(T1 i c)*(n*T k x)
theorem qY.RT{T0 T m W c k p}(h:qY T0 T m W c p)(hk:p.length<=k)(px:k<m)(hc:c<W){n:Fin q}(hn:n*T k c=1):qY T0 (tn T p.length k c n) m W (c+1) (p++[c]):=by
 obtain⟨r,hr⟩:∃r,r=p.length:=⟨_,rfl⟩;obtain⟨T1,K4⟩:∃T1:Nat->Nat->Fin q,T1=fun i=>if i=r then T k else if i=k then T r else T i:=⟨_,rfl⟩
 have hT:∀i x,tn T p.length k c n i x=if i=r then n*T k x else T1 i x+-(T1 i c)*(n*T k x):=fun i x=>by rw[K4,tn,<-hr]
 have T1r:T1 r=T k:=by rw[K4];simp
 have T1z:∀i,p.length<=i->i<m->∀x<c,T1 i x=0:=fun i h1 h2 x hx=>by
  rw[K4];simp only;split
  .exact h.rest k hk px x hx
  .split
   .exact h.rest r (by omega) (by omega) x hx
   .exact h.rest i h1 h2 x hx
 have T1e:∀i<m,∃j<m,T1 i=T j:=fun i hi=>by grind
 have Te1:∀i<m,∃j<m,T i=T1 j:=fun i hi=>by grind
 refine⟨by rw[List.length_append];simp;omega,?_,?_,?_,?_,?_,?_⟩
 .intro j x e;rw[List.getElem?_append]at e;split at e
  .exact Nat.lt_succ_of_lt (h.lt j x e)
  grind
 .intro j x e;rw[hT];rw[List.getElem?_append]at e;split at e
  .rename_i hj;have hx:=h.lt j x e;rw[if_neg (by omega),h.rest k hk px x hx];have:T1 j x=1:=by rw[K4];simp only;rw[if_neg (by omega),if_neg (by omega)];exact h.one j x e
   rw[this];grobner
  grind
 .intro j x e i hi nf;rw[hT];rw[List.getElem?_append]at e;split at e
  .rename_i hj;have hx:=h.lt j x e;have z1:=h.rest k hk px x hx;split
   .rw[z1];grobner
   .rename_i UQ;have:T1 i x=0:=by
     rw[K4];simp only;rw[if_neg UQ];split
     .grind
     .exact h.zero j x e i hi nf
    rw[this,z1];grobner
  grind
 .intro i h1 h2 x hx;rw[List.length_append]at h1;simp at h1;rw[hT,if_neg (by omega)];by_cases e:x=c
  .subst e;rw[hn];grobner
  .rw[T1z i (by omega) h2 x (by omega),h.rest k hk px x (by omega)];grobner
 .intro w;rw[<-h.Pa w];have K5:dot (tn T p.length k c n r) w W=n*dot (T k) w W:=by rw[<-adK];exact adL fun x _=>by rw[hT,if_pos rfl]
  have hdi:∀i,i≠r->dot (tn T p.length k c n i) w W=dot (T1 i) w W+-(T1 i c)*(n*dot (T k) w W):=fun i hi=>by rw[<-adK,<-aqI];exact adL fun x _=>by rw[hT,if_neg hi]
  constructor
  .intro H;have h0:dot (T k) w W=0:=by
    have e:=H r (by omega);rw[K5]at e;have:dot (T k) w W=T k c*(n*dot (T k) w W):=by generalize dot (T k) w W=D at*;generalize T k c=B at*;clear hdi K5 H;grobner
    rw[this,e];grobner
   intro i hi;obtain⟨j,hj,e⟩:=Te1 i hi;rw[e];by_cases e2:j=r
   .rw[e2,T1r];exact h0
   .have e3:=H j hj;grind
  .intro H i hi;by_cases e2:i=r
   .rw[e2,K5,H k px];grobner
   .obtain⟨j,hj,e⟩:=T1e i hi;rw[hdi i e2,H k px,e,H j hj];grobner
 .intro i hi;have hkS:=h.sp k px;by_cases e2:i=r
  .exact(hkS.smul n).congr fun x _=>by rw[hT,if_pos e2]
  .obtain⟨j,hj,e⟩:=T1e i hi;have:=(h.sp j hj).add ((hkS.smul n).smul (-(T1 i c)));exact this.congr fun x _=>by rw[hT,if_neg e2,e]
end
end lV
namespace lV
section
variable {q:Nat} [NeZero q]
def Sep(R:Nat->Nat->Fin q)(n d:Nat)(t:Nat->Fin q):Prop:=∃w,G6 R n d w/\dot t w d≠0
def K6(R:Nat->Nat->Fin q)(n d:Nat)(t:Nat->Fin q):Prop:=∃y:Nat->Fin q,∀k<d,sm (fun i=>y i*R i k) n=t k
theorem aqM{R n d}{t:Nat->Fin q}(h:K6 R n d t):¬Sep R n d t:=by
 rintro⟨w,h1,h2⟩;obtain⟨y,hy⟩:=h;apply h2;have e:dot t w d=sm (fun k=>sm (fun i=>y i*(R i k*w k)) n) d:=tg fun k hk=>by rw[<-hy k hk];have:=CU (w k) (fun i=>y i*R i k) n;grind
 rw[e,UP];refine CT fun i hi=>?_;have:sm (fun k=>y i*(R i k*w k)) d=y i*dot (R i) w d:=CU ..;rw[this,h1 i hi];grobner
def eqs(R:Nat->Nat->Fin q)(n:Nat)(t:Nat->Fin q):Nat->Nat->Fin q:=fun k i=>if i=n then t k else R i k
theorem aqN{R n d}{t:Nat->Fin q}{T p}(h:qY (eqs R n t) T d (n+1) n p)(h0:∀k,p.length<=k->k<d->T k n=0):K6 R n d t:=by
 obtain⟨y,hy⟩:∃y:Nat->Fin q,y=fun i=>match p.findIdx? (·==i)with
  |some j=>T j n
  |none=>0:=⟨_,rfl⟩
 have yp:∀(j x:Nat),p[j]? =some x->∀j',j'<d->T j' x*y x=T j' x*T j n:=fun j x e j' jU=>by
  rw[hy];simp only;cases hf:p.findIdx? (·==x)with
  |none=>
   rw[List.findIdx?_eq_none_iff]at hf;have:=hf x (List.mem_of_getElem? e);simp at this
  |some j2=>
   simp only;rw[List.findIdx?_eq_some_iff_getElem]at hf;obtain⟨q1,q2,_⟩:=hf;have e2:p[j2]? =some x:=by rw[List.getElem?_eq_getElem q1];simpa using q2
   by_cases hj:j=j2
   .rw[hj]
   .have a1:=h.one j x e;have a2:=h.zero j2 x e2 j (by have:=(List.getElem?_eq_some_iff.1 e).1;have:=h.le;omega) hj;grind
 have yn:∀x,x∉p->y x=0:=fun x hx=>by grind
 obtain⟨w,hw⟩:∃w:Nat->Fin q,w=fun i=>if i=n then-1 else y i:=⟨_,rfl⟩
 have aqQ:G6 T d (n+1) w:=fun i hi=>by
  rw[dot,sm];have e1:sm (fun k=>T i k*w k) n=sm (fun k=>T i k*y k) n:=tg fun k hk=>by rw[hw];simp only;rw[if_neg (by omega)]
  have e2:w n=-1:=by rw[hw];simp
  rw[e1,e2];by_cases Pb:i<p.length
  .obtain⟨x,hx⟩:∃x,p[i]? =some x:=⟨p[i],List.getElem?_eq_getElem Pb⟩;have hxn:=h.lt i x hx;have e3:sm (fun k=>T i k*y k) n=T i x*y x:=KZ hxn fun k hk cV=>by
    by_cases K7:k∈p
    .obtain⟨j,hj⟩:=List.mem_iff_getElem?.1 K7;have qu:i≠j:=fun e=>by grind
     rw[h.zero j k hj i hi qu];grobner
    .rw[yn k K7];grobner
   rw[e3,yp i x hx i hi,h.one i x hx];grobner
  .have e3:sm (fun k=>T i k*y k) n=0:=CT fun k hk=>by rw[h.rest i (by omega) hi k hk];grobner
   rw[e3,h0 i (by omega) hi];grobner
 have h1:=(h.Pa w).1 aqQ;refine⟨y,fun k hk=>?_⟩;have e:=h1 k hk;rw[dot,sm]at e;have e1:sm (fun i=>eqs R n t k i*w i) n=sm (fun i=>y i*R i k) n:=tg fun i hi=>by rw[hw,eqs];grind
 have e2:eqs R n t k n*w n=-(t k):=by rw[hw,eqs];simp only[if_pos];grobner
 grind
theorem aqS{R n d}{t:Nat->Fin q}{T p}(h:qY (eqs R n t) T d (n+1) n p){k}(h1:p.length<=k)(h2:k<d)(h3:T k n≠0):Sep R n d t:=by
 obtain⟨a,ha⟩:=h.sp k h2;refine⟨a,fun i hi=>?_,fun e=>?_⟩
 .have e:=ha i (by omega);rw[h.rest k h1 h2 i hi]at e;rw[dot,e];exact tg fun j _=>by rw[eqs,if_neg (by omega)];grobner
 .apply h3;rw[ha n (by omega),<-e];exact tg fun j _=>by rw[eqs,if_pos rfl];grobner
def ls:List (Fin q)->Fin q
 |[]=>0
 |x::r=>x+ls r
theorem UR(f:Nat->Fin q){a:Nat}:∀{d:Nat},a<d->sm f d=f a+sm (fun x=>if x=a then 0 else f x) d
 |0,h=>absurd h (Nat.not_lt_zero _)
 |d+1,h=>by
  rw[sm,sm];by_cases e:a=d
  .subst e;have:sm (fun x=>if x=a then 0 else f x) a=sm f a:=tg fun x hx=>by rw[if_neg (by omega)]
   rw[this,if_pos rfl];grobner
  .rw[UR f (a:=a) (d:=d) (by omega),if_neg (by omega)];grobner
theorem US{f:Nat->Fin q}{d:Nat}:∀{l:List Nat},l.Nodup->(∀x∈l,x<d)->(∀x<d,x∉l->f x=0)->sm f d=ls (l.map f)
 |[],_,_,h=>CT fun x hx=>h x hx (by simp)
 |a::l,hn,hl,h=>by
  obtain⟨h1,h2⟩:=List.nodup_cons.1 hn;have ih:=US (f:=fun x=>if x=a then 0 else f x) h2 (fun x hx=>hl x (by simp[hx])) fun x hx iD=>by grind
  rw[UR f (hl a (by simp)),ih,List.map_cons,ls];congr 2;refine List.map_congr_left fun x hx=>?_;grind
def Bd(T:Nat->Nat->Fin q)(t:Nat->Fin q)(p:List Nat)(c:Nat):Fin q:=t c+ls ((List.range p.length).map fun j=>-(T j c)*t (p.getD j 0))
structure NV(T:Nat->Nat->Fin q)(p:List Nat)(c d:Nat)(w:Nat->Fin q):Prop where
 c1:w c=1
 pv:∀(j x:Nat),p[j]? =some x->w x=-(T j c)
 z:∀x<d,x≠c->x∉p->w x=0
theorem qY.nodup{T0 T:Nat->Nat->Fin q}{m W c p}(h:qY T0 T m W c p)(h1:(1:Fin q)≠0):p.Nodup:=by rw[List.nodup_iff_pairwise_ne,List.pairwise_iff_getElem];intro i j hi hj nf e;have a1:=h.one i p[i] (List.getElem?_eq_getElem hi);have a2:=h.zero j p[j] (List.getElem?_eq_getElem hj) i (by have:=h.le;omega) (by omega);rw[<-e,a1]at a2;exact h1 a2
theorem aqT{R T n d}{t:Nat->Fin q}{p}(h1:(1:Fin q)≠0)(h:qY R T n d d p){c}(hc:c<d)(Be:c∉p){w}(hw:NV T p c d w):dot t w d=Bd T t p c/\(Bd T t p c≠0->Sep R n d t):=by
 have hn:=h.nodup h1;have dN:∀x∈p,x<d:=fun x hx=>by obtain⟨j,hj⟩:=List.mem_iff_getElem?.1 hx;exact h.lt j x hj
 have e1:dot t w d=Bd T t p c:=by
  have:=US (f:=fun k=>t k*w k) (l:=c::p) (List.nodup_cons.2 ⟨Be,hn⟩) (fun x hx=>by
   rcases List.mem_cons.1 hx with rfl|hx
   .exact hc
   .exact dN x hx) fun x hx iD=>by rw[hw.z x hx (fun e=>iD (by simp[e])) (fun e=>iD (by simp[e]))];grobner
  rw[dot,this,List.map_cons,ls,Bd,hw.c1];have e2:p.map (fun k=>t k*w k)=(List.range p.length).map fun j=>-(T j c)*t (p.getD j 0):=by
   apply List.ext_getElem?;intro i;by_cases hi:i<p.length
   .have e3:=hw.pv i p[i] (List.getElem?_eq_getElem hi);simp[hi,e3];grobner
   .simp[hi]
  rw[e2];grobner
 refine⟨e1,fun cV=>⟨w,(h.Pa w).1 fun i hi=>?_,by rw[e1];exact cV⟩⟩;have:=US (f:=fun k=>T i k*w k) (l:=c::p) (List.nodup_cons.2 ⟨Be,hn⟩) (fun x hx=>by
  rcases List.mem_cons.1 hx with rfl|hx
  .exact hc
  .exact dN x hx) fun x hx iD=>by rw[hw.z x hx (fun e=>iD (by simp[e])) (fun e=>iD (by simp[e]))];grobner
 by_cases Pb:i<p.length
 .have hx:p[i]? =some p[i]:=List.getElem?_eq_getElem Pb;have cV:p[i]≠c:=fun e=>Be (by grind);rw[dot,UR _ hc,KZ (k:=p[i]) (dN _ (List.getElem_mem Pb)) fun k hk aCu=>by
   split
   .rfl
   .rename_i hkc;by_cases K7:k∈p
    .obtain⟨j,hj⟩:=List.mem_iff_getElem?.1 K7;have qu:i≠j:=fun e=>by grind
     rw[h.zero j k hj i hi qu];grobner
    .rw[hw.z k hk hkc K7];grobner]
  simp only[if_neg cV];rw[hw.c1,h.one i _ hx,hw.pv i _ hx];grobner
 .exact CT fun k hk=>by rw[h.rest i (by omega) hi k hk];grobner
theorem aqV{R T n d}{t:Nat->Fin q}{p}(h:qY R T n d d p)(h0:∀c<d,c∉p->Bd T t p c=0):¬Sep R n d t:=by
 rintro⟨w,hw,cV⟩;have hT:=(h.Pa w).2 hw;apply cV;have et:∀c<d,t c=sm (fun j=>t (p.getD j 0)*T j c) p.length:=fun c hc=>by
  by_cases Be:c∈p
  .obtain⟨j,hj⟩:=List.mem_iff_getElem?.1 Be;have BM:=(List.getElem?_eq_some_iff.1 hj).1;rw[KZ (k:=j) BM fun i hi cV=>by rw[h.zero j c hj i (by have:=h.le;omega) cV];grobner];rw[List.getD_eq_getElem?_getD,hj,h.one j c hj];simp only[Option.getD_some];grobner
  .have e:=h0 c hc Be;rw[Bd]at e;have e2:∀r,ls ((List.range r).map fun j=>-(T j c)*t (p.getD j 0))=-(sm (fun j=>t (p.getD j 0)*T j c) r):=fun r=>by
    induction r with
    |zero=>simp only[List.range_zero,List.map_nil,ls,sm];grobner
    |succ r ih=>
     have la:∀(a:List (Fin q)) (x:Fin q),ls (a++[x])=ls a+x:=fun a x=>by
      induction a with
      |nil=>simp only[List.nil_append,ls];grobner
      |cons y a iha=>rw[List.cons_append,ls,iha,ls];grobner
     rw[List.range_succ,List.map_append,List.map_cons,List.map_nil,la,ih,sm];grobner
   grind
 have e:dot t w d=sm (fun k=>sm (fun j=>t (p.getD j 0)*(T j k*w k)) p.length) d:=tg fun k hk=>by
  rw[et k hk];have e2:sm (fun j=>t (p.getD j 0)*T j k) p.length*w k=w k*sm (fun j=>t (p.getD j 0)*T j k) p.length:=by grobner
  rw[e2,<-CU];exact tg fun j _=>by grobner
 rw[e,UP];refine CT fun j hj=>?_;have:sm (fun k=>t (p.getD j 0)*(T j k*w k)) d=t (p.getD j 0)*dot (T j) w d:=CU ..;rw[this,hT j (by have:=h.le;omega)];grobner
end
end lV
