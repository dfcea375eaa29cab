/- Parts of the proof of TopPolicy, joined: AbsA..AbsM. No conditions. -/
import Derived.WalkKit
import Derived.RangeFuncNested
import Derived.RangeFuncLeaves
import Derived.OrdersIn
import Derived.LoopNIn
import Derived.ChangeKeysEq
import Derived.Maps.RangeRun
set_option linter.all false
set_option maxRecDepth 100000
set_option maxHeartbeats 8000000
namespace Go.aS
open Go Go.RowKit
inductive Own where
 |free|full|bN (i:Nat)
inductive AV where
 |top
 |int (k:IntKind) (n:Int)
 |bool (b:Bool)
 |str (s:ByteArray)
 |ptr (p:Option (Nat×Nat))
 |bS (cells:List AV)
 |sl (rows:List AV) (own:Own)
 |ms (i off len cap sz:Nat)
 |map (r:Option Nat)
 |func (fn:FuncId) (first captured:List AV)
 |yield (l:Nat)
 |nilFunc
 |iface (t:TypeId) (v:AV)
 |nilIface
 |agg (cells:List AV)
 |tuple (vs:List AV)
abbrev GG:=Nat->Option (List AV)
def AV.cells:AV->List AV
 | .agg cs=>cs
 |v=>[v]
def AV.one:AV->Bool
 | .agg _| .tuple _| .top=>false
 |_=>true
structure Ar where
 n:Nat
 sn:Option (Nat×Nat×Nat×TypeId)
structure Gh where
 w0:World
 ρ:Nat->Option Nat
 F:Nat->Nat->Option Value
 ar:Nat->Option Ar
 bJ:Nat->Option Nat
 ds:Nat->Prop
def Ff(G:Gh)(rows:List AV)(a:Option Addr)(cap sz:Nat):Own->Prop
 | .free=>True
 | .full=>cap=rows.length
 | .bN i=>∃r,G.ar i=some r/\rows.length<=r.n/\(rows.length=r.n->match r.sn with
   |none=>cap=r.n
   |some (b,c,s,_)=>a=some ⟨b,0,none⟩/\cap=c/\(rows≠[]->sz=s))
inductive VR(G:Gh):AV->Value->Prop
 |top (v:Value):VR G .top v
 |int (k:IntKind) (n:Int):VR G (.int k n) (.int k n)
 |bool (b:Bool):VR G (.bool b) (.bool b)
 |str (s:ByteArray):VR G (.str s) (.string s)
 |rj:VR G (.ptr none) (.pointer none)
 |ptr {i b o:Nat} (h:G.ρ i=some b):VR G (.ptr (some (i,o))) (.pointer (some ⟨b,o,none⟩))
 |bS {cs:List AV} {b o:Nat} (vals:Nat->Value) (hF:∀j c,cs[j]? =some c->G.F b (o+j)=some (vals j))
   (hv:∀j c,cs[j]? =some c->VR G c (vals j)):VR G (.bS cs) (.pointer (some ⟨b,o,none⟩))
 |sl {rows:List AV} {own:Own} {a:Option Addr} {cap sz:Nat} (vals:Nat->Nat->Value) (jc:rows.length<=cap) (iT:a=none->cap=0)
   (cj:∀(k:Nat) (r:AV),rows[k]? =some r->r.cells.length=sz)
   (hF:∀(k:Nat) (r:AV) (j:Nat) (c:AV),rows[k]? =some r->r.cells[j]? =some c->∃b o,a=some ⟨b,o,none⟩/\G.F b (o+k*sz+j)=some (vals k j))
   (hv:∀(k:Nat) (r:AV) (j:Nat) (c:AV),rows[k]? =some r->r.cells[j]? =some c->VR G c (vals k j))
   (cP:Ff G rows a cap sz own):VR G (.sl rows own) (.slice a rows.length cap)
 |ms {i b off len cap sz:Nat} (h:G.ρ i=some b):VR G (.ms i off len cap sz) (.slice (some ⟨b,off,none⟩) len cap)
 |rm:VR G (.map none) (.map none)
 |map {i b:Nat} (h:G.ρ i=some b):VR G (.map (some i)) (.map (some b))
 |func {f:FuncId} {fs cs:List AV} {first captured:Array Value} (hf:fs.length=first.size) (hc:cs.length=captured.size)
   (pJ:∀j c,fs[j]? =some c->VR G c (first.getD j undef)) (LM:∀j c,cs[j]? =some c->VR G c (captured.getD j undef)):
   VR G (.func f fs cs) (.func (.func f) first captured)
 |yield {i b:Nat} (h:G.ρ i=some b):VR G (.yield i) (.func (.yield b) #[] #[])
 |nilFunc:VR G .nilFunc .nilFunc
 |iface (t:TypeId) {a:AV} {v:Value} (h:VR G a v):VR G (.iface t a) (.iface t v)
 |nilIface:VR G .nilIface .nilIface
 |agg {cs:List AV} {vals:Array Value} (hl:cs.length=vals.size) (hv:∀j c,cs[j]? =some c->VR G c (vals.getD j undef)):VR G (.agg cs) (.agg vals)
 |tuple {cs:List AV} {vals:Array Value} (hl:cs.length=vals.size) (hv:∀j c,cs[j]? =some c->VR G c (vals.getD j undef)):VR G (.tuple cs) (.tuple vals)
def b9(G:Gh)(cs:List AV)(vals:Array Value):Prop:=cs.length=vals.size/\∀j c,cs[j]? =some c->VR G c (vals.getD j undef)
structure Gh.le(G G':Gh):Prop where
 w0:G'.w0=G.w0
 ρ:∀i b,G.ρ i=some b->G'.ρ i=some b
 F:∀b o v,G.F b o=some v->G'.F b o=some v
 ar:∀i r,G.ar i=some r->∃r',G'.ar i=some r'/\r.n<=r'.n/\(r.n=r'.n->r'.sn=r.sn)
 bJ:∀b D,G.bJ b=some D->G'.bJ b=some D
 ds:∀D,G.ds D->G'.ds D
 ym:∀b D,G'.bJ b=some D->G.ds D->∃b',G.bJ b'=some D
theorem Gh.le.refl(G:Gh):G.le G:=⟨rfl,fun _ _ h=>h,fun _ _ _ h=>h,fun _ r h=>⟨r,h,Nat.le_refl _,fun _=>rfl⟩,fun _ _ h=>h,fun _ h=>h,fun b _ h _=>⟨b,h⟩⟩
theorem Gh.le.trans{A B D:Gh}(h:A.le B)(k:B.le D):A.le D:=
 ⟨k.w0.trans h.w0,fun i b e=>k.ρ i b (h.ρ i b e),fun b o v e=>k.F b o v (h.F b o v e),fun i r e=>by
  obtain⟨r1,e1,l1,s1⟩:=h.ar i r e;obtain⟨r2,e2,l2,s2⟩:=k.ar i r1 e1;grind,fun b D e=>k.bJ b D (h.bJ b D e),fun D e=>k.ds D (h.ds D e),fun b D e f=>by
  obtain⟨b',e'⟩:=k.ym b D e (h.ds D f);exact h.ym b' D e' f⟩
theorem Ff.mono{G G'}(hg:G.le G'){rows a cap sz own}(h:Ff G rows a cap sz own):Ff G' rows a cap sz own:=by
 cases own with
 |free=>trivial
 |full=>exact h
 |bN i=>
  obtain⟨r,hr,hl,hm⟩:=h;obtain⟨r',n9,hle,hs⟩:=hg.ar i r hr;refine⟨r',n9,Nat.le_trans hl hle,fun e=>?_⟩;grind
theorem VR.mono{G G'}(hg:G.le G'){a v}(h:VR G a v):VR G' a v:=by
 induction h with
 |top v=>exact .top v
 |int k n=>exact .int k n
 |bool b=>exact .bool b
 |str s=>exact .str s
 |rj=>exact .rj
 |ptr h=>exact .ptr (hg.ρ _ _ h)
 |bS vals hF _ ih=>exact .bS vals (fun j c h=>hg.F _ _ _ (hF j c h)) ih
 |sl vals jc iT cj hF _ cP ih=>exact .sl vals jc iT cj (fun k r j c h h'=>by obtain⟨b,o,e,f⟩:=hF k r j c h h';exact⟨b,o,e,hg.F _ _ _ f⟩) ih (cP.mono hg)
 |ms h=>exact .ms (hg.ρ _ _ h)
 |rm=>exact .rm
 |map h=>exact .map (hg.ρ _ _ h)
 |func hf hc _ _ i1 i2=>exact .func hf hc i1 i2
 |yield h=>exact .yield (hg.ρ _ _ h)
 |nilFunc=>exact .nilFunc
 |iface t _ ih=>exact .iface t ih
 |nilIface=>exact .nilIface
 |agg hl _ ih=>exact .agg hl ih
 |tuple hl _ ih=>exact .tuple hl ih
theorem b9.mono{G G'}(hg:G.le G'){cs vals}(h:b9 G cs vals):b9 G' cs vals:=⟨h.1,fun j c e=>(h.2 j c e).mono hg⟩
theorem b9.nil(G):b9 G [] #[]:=⟨rfl,fun j c h=>by simp at h⟩
theorem b9.append{G cD bs xs ys}(h:b9 G cD xs)(k:b9 G bs ys):b9 G (cD++bs) (xs++ys):=by
 refine⟨by simp[h.1,k.1],fun j c e=>?_⟩;rw[List.getElem?_append]at e;split at e
 .rename_i hj;have jU:j<xs.size:=h.1▸hj;have:=h.2 j c e;simpa [Array.getD_eq_getD_getElem?,Array.getElem?_append,jU]using this
 .rename_i hj;have jU:¬j<xs.size:=h.1▸hj;have:=k.2 _ c e;rw[h.1]at this;simpa [Array.getD_eq_getD_getElem?,Array.getElem?_append,jU]using this
theorem b9.cons{G a v cD xs}(h:VR G a v)(k:b9 G cD xs):b9 G (a::cD) (#[v]++xs):=
 b9.append (cD:=[a]) (xs:= #[v]) ⟨rfl,fun j c e=>by cases j with
  |zero=>simp at e;subst e;exact h
  |succ j=>simp at e⟩ k
theorem b9.one{G a v}(h:VR G a v):b9 G [a] #[v]:=b9.cons h (b9.nil G)
theorem b9.get{G cs vals}(h:b9 G cs vals){j:Nat}{c}(e:cs[j]? =some c):∃v,vals[j]? =some v/\VR G c v:=by have hj:j<vals.size:=h.1▸(List.getElem?_eq_some_iff.1 e).1;refine⟨vals[j],Array.getElem?_eq_getElem hj,?_⟩;have:=h.2 j c e;simp_all
theorem b9.rn{G cs vals}(hl:cs.length=vals.size)(h:∀(j:Nat) (c) (v),cs[j]? =some c->vals[j]? =some v->VR G c v):b9 G cs vals:=
 ⟨hl,fun j c e=>by have hj:j<vals.size:=hl▸(List.getElem?_eq_some_iff.1 e).1;have:=h j c vals[j] e (Array.getElem?_eq_getElem hj);simp_all⟩
theorem b9.set{G cs vals}(h:b9 G cs vals){j c v}(hv:VR G c v):b9 G (cs.set j c) (vals.setIfInBounds j v):=by
 refine b9.rn (by simp[h.1]) fun i c' v' e e'=>?_;rw[List.getElem?_set]at e;rw[Array.getElem?_setIfInBounds]at e';by_cases nf:j=i
 .grind
 .simp only[nf,if_false]at e e';obtain⟨u,hu,hr⟩:=h.get e;rw[hu]at e';cases e';exact hr
theorem VR.cells{G a v}(h:VR G a v)(ha:a.one=true\/∃cs,a= .agg cs):b9 G a.cells v.cells:=by
 rcases ha with ha|⟨cs,rfl⟩
 .have h0:=h;cases h<;>first|(simp[AV.one]at ha;done)|exact b9.one h0
 .cases h with
  |agg hl hv=>exact⟨hl,hv⟩
theorem VR.agh{G a v}(h:VR G a v)(ha:a.one=true):v.oneCell'=true:=by cases h<;>first|(simp[AV.one]at ha;done)|rfl
abbrev Tm:=List (Nat×AV)
def lk:Tm->Nat->AV
 |[],_=> .top
 |(j,v)::r,i=>if i=j then v else lk r i
structure LI where
 N:Nat
 σ:Tm
 params:Array Tmp
 assign:Code
 body:Code
 fn:Option FuncId
inductive cO where
 |row (cells:List AV) (T:TypeId)
 |map (cB:List (Nat×AV×AV)) (clk:Nat)
 |iter (m:Option Nat) (clk:Nat) (seen:List Nat)
 |Fg (s:ByteArray) (pos:Nat)
 |bN (n:Nat)
 |loop (st:LoopState) (C9:Option Code) (li:LI)
 |dead
 |hole
 |frozen
abbrev AH:=List cO
def TR(N:Nat)(G:Gh)(σ:Tm)(tmps:Array Value):Prop:=tmps.size=N/\∀i,VR G (lk σ i) (tmps.getD i undef)
def BB(G:Gh)(w:World)(i:Nat):cO->Prop
 | .row cs T=>∃b vals,G.ρ i=some b/\w.heap[b]? =some (.cells vals T (0,0))/\b9 G cs vals
 | .map cB clk=>∃(b:Nat) (es:Array MapEntry),G.ρ i=some b/\w.heap[b]? =some (.map es clk)/\cB.length=es.size/\
   ∀(j:Nat) (e:Nat×AV×AV) (x:MapEntry),cB[j]? =some e->es[j]? =some x->x.born=e.1/\VR G e.2.1 x.key/\VR G e.2.2 x.val
 | .iter m clk seen=>∃b mb,G.ρ i=some b/\w.heap[b]? =some (.mapIter mb clk seen.toArray clk)/\(match m with
   |none=>mb=none
   |some j=>∃c,mb=some c/\G.ρ j=some c)
 | .Fg s pos=>∃b,G.ρ i=some b/\w.heap[b]? =some (.stringIter s pos)
 | .bN n=>∃r,G.ar i=some r/\r.n=n
 | .loop st C9 li=>∃b l,G.ρ i=some b/\w.heap[b]? =some (.loop l)/\l.state=st/\l.pending=C9/\l.params=li.params/\l.assign=li.assign/\l.body=li.body/\
   TR li.N G li.σ l.tmps/\G.bJ b=some l.defers/\∀f,li.fn=some f->l.fn=f
 | .dead=>True
 | .hole=>G.ρ i=none/\G.ar i=none
 | .frozen=>True
structure LN(G:Gh)(w:World)(r:Ar)(b c sz:Nat)(T:TypeId):Prop where
 sn:∃cells,w.heap[b]? =some (.cells cells T (0,0))/\cells.size=c*sz
 fit:r.n<=c
 pos:0<r.n
 base:G.w0.heap.size<=b
 LP:∀o v,G.F b o=some v->o<r.n*sz
 ρ:∀j,G.ρ j≠some b
structure Inv(Γ:GG)(G:Gh)(h:AH)(w:World):Prop where
 below:Below G.w0.heap.size G.w0 w
 kJ:Γ 1000000=none->G.w0.drawn<=w.drawn
 k_:∀g cs,Γ (1000001+g)=some []->Γ g=some cs->∃vals T z,G.w0.heap[g]? =some (.cells vals T z)/\vals.size=cs.length
 fix:∀b o v,G.F b o=some v->w.cell? ⟨b,o,none⟩=some v
 obj:∀i ob,h[i]? =some ob->BB G w i ob
 ij:∀i b,G.ρ i=some b->i<h.length
 jv:∀i r,G.ar i=some r->i<h.length
 inj:∀i j b,G.ρ i=some b->G.ρ j=some b->i=j
 base:∀i b,G.ρ i=some b->G.w0.heap.size<=b/\b<w.heap.size
 sep:∀i b o v,h[i]? ≠some .frozen->G.ρ i=some b->G.F b o=some v->False
 jw:∀i r b c sz T,G.ar i=some r->r.sn=some (b,c,sz,T)->LN G w r b c sz T
 kb:∀i j r r' b c sz T c' rp T',G.ar i=some r->G.ar j=some r'->r.sn=some (b,c,sz,T)->r'.sn=some (b,c',rp,T')->i=j
 lp:∀b D,G.bJ b=some D->∃l,w.heap[b]? =some (.loop l)/\l.defers=D/\G.ds D
 jx:∀b D,G.bJ b=some D->G.w0.heap.size<=b
 gu:∀D,G.ds D->w.heap[D]? =some (.deferred (some []))/\G.w0.heap.size<=D
 kn:∀g cs,Γ g=some cs->VR G (.bS cs) (.pointer (some ⟨g,0,none⟩))
theorem TR.mono{N G G'}(hg:G.le G'){σ t}(h:TR N G σ t):TR N G' σ t:=⟨h.1,fun i=>(h.2 i).mono hg⟩
theorem BB.mono{G G'}(hg:G.le G'){w w' i ob}(h:BB G w i ob)(hb:∀b,G.ρ i=some b->w'.heap[b]? =w.heap[b]?)
  (ha:∀r,G.ar i=some r->G'.ar i=some r)(hn:G.ρ i=none/\G.ar i=none->G'.ρ i=none/\G'.ar i=none):BB G' w' i ob:=by
 cases ob with
 |row cs T=>obtain⟨b,v,h1,h2,h3⟩:=h;exact⟨b,v,hg.ρ _ _ h1,(hb b h1).trans h2,h3.mono hg⟩
 |map cB clk=>obtain⟨b,es,h1,h2,h3,h4⟩:=h;exact⟨b,es,hg.ρ _ _ h1,(hb b h1).trans h2,h3,fun j e x he hx=>⟨(h4 j e x he hx).1,((h4 j e x he hx).2.1).mono hg,((h4 j e x he hx).2.2).mono hg⟩⟩
 |iter m clk seen=>
  obtain⟨b,mb,h1,h2,h3⟩:=h;refine⟨b,mb,hg.ρ _ _ h1,(hb b h1).trans h2,?_⟩;cases m with
  |none=>exact h3
  |some j=>obtain⟨c,e,k⟩:=h3;exact⟨c,e,hg.ρ _ _ k⟩
 |Fg s pos=>obtain⟨b,h1,h2⟩:=h;exact⟨b,hg.ρ _ _ h1,(hb b h1).trans h2⟩
 |bN n=>obtain⟨r,h1,h2⟩:=h;exact⟨r,ha r h1,h2⟩
 |loop st C9 li=>
  obtain⟨b,l,h1,h2,h3,h4,h5,h6,h7,h8,h9,sr⟩:=h;exact⟨b,l,hg.ρ _ _ h1,(hb b h1).trans h2,h3,h4,h5,h6,h7,h8.mono hg,hg.bJ _ _ h9,sr⟩
 |dead=>trivial
 |hole=>exact hn h
 |frozen=>trivial
theorem LN.mono{G G' w w' r b c sz T}(h:LN G w r b c sz T)(o6:G'.w0=G.w0)(hb:w'.heap[b]? =w.heap[b]?)
  (hF:∀o v,G'.F b o=some v->G.F b o=some v)(dI:∀j,G'.ρ j=some b->G.ρ j=some b):LN G' w' r b c sz T:=
 ⟨by rw[hb];exact h.sn,h.fit,h.pos,by rw[o6];exact h.base,fun o v e=>h.LP o v (hF o v e),fun j e=>h.ρ j (dI j e)⟩
theorem uj{w:World}{b o}(h:w.heap[b]? =some o):b<w.heap.size:=(Array.getElem?_eq_some_iff.1 h).1
theorem agi{w:World}{b o v}(h:w.cell? ⟨b,o,none⟩=some v):b<w.heap.size:=World.block_lt_of_cell? w ⟨b,o,none⟩ h
theorem BC{w w':World}{b o}(h:w'.heap[b]? =w.heap[b]?):w'.cell? ⟨b,o,none⟩=w.cell? ⟨b,o,none⟩:=by simp[World.cell?,h]
theorem cell_of{w:World}{b o vals T fr}(h:w.heap[b]? =some (.cells vals T fr)):w.cell? ⟨b,o,none⟩=vals[o]? :=by simp[World.cell?,h]
section
variable {Γ:GG} {G:Gh} {h:AH} {w:World}
theorem Inv.C_(hI:Inv Γ G h w){b o v}(e:G.F b o=some v):b<w.heap.size:=agi (hI.fix b o v e)
theorem Inv.Da(hI:Inv Γ G h w){i r b c sz T}(e:G.ar i=some r)(e':r.sn=some (b,c,sz,T)):b<w.heap.size:=by obtain⟨cells,hb,_⟩:=(hI.jw i r b c sz T e e').sn;exact uj hb
theorem Inv.row(hI:Inv Γ G h w){i cs T}(e:h[i]? =some (.row cs T)):∃b vals,G.ρ i=some b/\w.heap[b]? =some (.cells vals T (0,0))/\b9 G cs vals:=hI.obj i _ e
theorem Inv.later(hI:Inv Γ G h w){w':World}(hs:w.heap.size<=w'.heap.size)(ho:w'.os=w.os)(ht:w'.tape=w.tape)(hp:w'.output=w.output)
  (hb:∀k,k<w.heap.size->w'.heap[k]? =w.heap[k]?)(hd:Γ 1000000=none->w.drawn<=w'.drawn:=by first|exact fun _=>Nat.le_refl _|exact fun _=>Nat.le_succ _|(intro _;simp[World.drew];done)):Inv Γ G h w' where
 k_:=hI.k_
 kJ:=fun e=>Nat.le_trans (hI.kJ e) (hd e)
 below:=hI.below.trans ⟨ho,ht,hp,hs,fun k hk=>hb k (Nat.lt_of_lt_of_le hk hI.below.size)⟩
 fix:=fun b o v e=>(BC (hb b (hI.C_ e))).trans (hI.fix b o v e)
 obj:=fun i ob e=>(hI.obj i ob e).mono (Gh.le.refl G) (fun b e'=>hb b (hI.base i b e').2) (fun _ h=>h) (fun h=>h)
 ij:=hI.ij
 jv:=hI.jv
 inj:=hI.inj
 base:=fun i b e=>⟨(hI.base i b e).1,Nat.lt_of_lt_of_le (hI.base i b e).2 hs⟩
 sep:=hI.sep
 jw:=fun i r b c sz T e e'=>(hI.jw i r b c sz T e e').mono rfl (hb b (hI.Da e e')) (fun _ _ h=>h) (fun _ h=>h)
 kb:=hI.kb
 lp:=fun b D e=>by obtain⟨l,h1,h2⟩:=hI.lp b D e;grind
 jx:=hI.jx
 gu:=fun D e=>⟨(hb D (uj (hI.gu D e).1)).trans (hI.gu D e).1,(hI.gu D e).2⟩
 kn:=hI.kn
theorem Inv.Db(hI:Inv Γ G h w)(o):Inv Γ G h (w.alloc o):=
 hI.later (by simp) rfl rfl rfl (fun k hk=>Below.heap_alloc w o k hk)
theorem Inv.drew(hI:Inv Γ G h w):Inv Γ G h w.drew:=hI.later (Nat.le_refl _) rfl rfl rfl (fun _ _=>rfl)
def Gh.add(G:Gh)(i b:Nat):Gh:={G with ρ:=fun j=>if j=i then some b else G.ρ j}
theorem Inv.uk(hI:Inv Γ G h w)(b):G.le (G.add h.length b):=
 ⟨rfl,fun i c e=>by have:=hI.ij i c e;simp only[Gh.add];rw[if_neg (by omega)];exact e,fun _ _ _ e=>e,fun _ r e=>⟨r,e,Nat.le_refl _,fun _=>rfl⟩,fun _ _ e=>e,fun _ e=>e,fun b _ e _=>⟨b,e⟩⟩
theorem Gh.add_same(G:Gh)(i b):(G.add i b).ρ i=some b:=by simp[Gh.add]
theorem Inv.alloc(hI:Inv Γ G h w)(o ob)(pL:BB (G.add h.length w.heap.size) (w.alloc o) h.length ob):
  Inv Γ (G.add h.length w.heap.size) (h++[ob]) (w.alloc o):=by
 have hle:=hI.uk w.heap.size;have eA:=hI.Db o;have dI:∀i b,(G.add h.length w.heap.size).ρ i=some b->(i=h.length/\b=w.heap.size)\/(i≠h.length/\G.ρ i=some b):=fun i b e=>by simp only[Gh.add]at e;grind
 exact {
  below:=eA.below
  k_:=eA.k_
  kJ:=eA.kJ
  fix:=eA.fix
  obj:=fun i HP e=>by
   rw[List.getElem?_append]at e;split at e
   .rename_i hi;exact(eA.obj i HP e).mono hle (fun _ _=>rfl) (fun _ h=>h) (fun h=>⟨by simp only[Gh.add];rw[if_neg (by omega)];exact h.1,h.2⟩)
   grind
  ij:=fun i b e=>by
   rcases dI i b e with⟨h1,_⟩|⟨_,h2⟩
   .simp[h1]
   .have:=hI.ij i b h2;simp;omega
  jv:=fun i r e=>by have:=hI.jv i r e;simp;omega
  inj:=fun i j b e e'=>by
   rcases dI i b e with⟨h1,h2⟩|⟨h1,h2⟩<;>rcases dI j b e' with⟨k1,k2⟩|⟨k1,k2⟩
   .omega
   .have:=(hI.base j b k2).2;omega
   .have:=(hI.base i b h2).2;omega
   .exact hI.inj i j b h2 k2
  base:=fun i b e=>by
   rcases dI i b e with⟨h1,h2⟩|⟨h1,h2⟩
   .subst h2;exact⟨hI.below.size,by simp⟩
   .have:=hI.base i b h2;exact⟨this.1,by simp;omega⟩
  sep:=fun i b o v hf e e'=>by
   rcases dI i b e with⟨h1,h2⟩|⟨h1,h2⟩
   .have:=hI.C_ (show G.F b o=some v from e');omega
   .exact hI.sep i b o v (fun o7=>hf (by grind)) h2 e'
  jw:=fun i r b c sz T e e'=>(eA.jw i r b c sz T e e').mono (G':=G.add h.length w.heap.size) rfl rfl (fun _ _ h=>h) (fun j ej=>by
   rcases dI j b ej with⟨_,h2⟩|⟨_,h2⟩
   .have:=hI.Da (show G.ar i=some r from e) e';omega
   .exact h2)
  kb:=eA.kb
  lp:=eA.lp
  jx:=eA.jx
  gu:=eA.gu
  kn:=fun g cs e=>(eA.kn g cs e).mono hle}
def Gh.fixed(G:Gh)(b:Nat)(vals:Array Value):Gh:={G with F:=fun c o=>if c=b then vals[o]? else G.F c o}
theorem Inv.LQ(hI:Inv Γ G h w)(vals):G.le (G.fixed w.heap.size vals):=
 ⟨rfl,fun _ _ e=>e,fun b o v e=>by have:=hI.C_ e;simp only[Gh.fixed];rw[if_neg (by omega)];exact e,fun _ r e=>⟨r,e,Nat.le_refl _,fun _=>rfl⟩,fun _ _ e=>e,fun _ e=>e,fun b _ e _=>⟨b,e⟩⟩
theorem Inv.P7(hI:Inv Γ G h w)(vals T):Inv Γ (G.fixed w.heap.size vals) h (w.alloc (.cells vals T)):=by
 have hle:=hI.LQ vals;have eA:=hI.Db (.cells vals T);have lb:(w.alloc (.cells vals T)).heap[w.heap.size]? =some (.cells vals T (0,0)):=heap_alloc_new w _;exact {
  below:=eA.below
  k_:=eA.k_
  kJ:=eA.kJ
  fix:=fun b o v e=>by
   simp only[Gh.fixed]at e;split at e
   .simp_all
   .exact eA.fix b o v e
  obj:=fun i ob e=>(eA.obj i ob e).mono hle (fun _ _=>rfl) (fun _ h=>h) (fun h=>h)
  ij:=hI.ij
  jv:=hI.jv
  inj:=hI.inj
  base:=eA.base
  sep:=fun i b o v hf e e'=>by
   simp only[Gh.fixed]at e';split at e'
   .rename_i hb;have:=(hI.base i b e).2;omega
   .exact hI.sep i b o v hf e e'
  jw:=fun i r b c sz T e e'=>(eA.jw i r b c sz T e e').mono (G':=G.fixed w.heap.size vals) rfl rfl (fun o v hF=>by have:=hI.Da e e';simp only[Gh.fixed]at hF;rw[if_neg (by omega)]at hF;exact hF) (fun _ h=>h)
  kb:=hI.kb
  lp:=eA.lp
  jx:=eA.jx
  gu:=eA.gu
  kn:=fun g cs e=>(eA.kn g cs e).mono hle}
theorem Inv.write(hI:Inv Γ G h w){w':World}{i B:Nat}(hi:G.ρ i=some B)(hs:w'.heap.size=w.heap.size)(ho:w'.os=w.os)(ht:w'.tape=w.tape)(hp:w'.output=w.output)
  (hb:∀k,k≠B->w'.heap[k]? =w.heap[k]?)(ob:cO)(pL:BB G w' i ob)
  (hl:∀D,G.bJ B=some D->∃l,w'.heap[B]? =some (.loop l)/\l.defers=D)(hk:w.heap[B]? ≠some (.deferred (some [])))(uo:h[i]? ≠some .frozen)(hd:w.drawn<=w'.drawn:=by first|exact Nat.le_refl _|exact Nat.le_succ _|(simp[World.drew];done)):Inv Γ G (h.set i ob) w' where
 k_:=hI.k_
 kJ:=fun e=>Nat.le_trans (hI.kJ e) hd
 below:=hI.below.trans ⟨ho,ht,hp,by omega,fun k ng=>hb k (fun e=>by have:=(hI.base i B hi).1;omega)⟩
 fix:=fun b o v e=>(BC (hb b (fun e'=>hI.sep i B o v uo hi (e'▸e)))).trans (hI.fix b o v e)
 obj:=fun j HP e=>by
  rw[List.getElem?_set]at e;split at e
  .grind
  .rename_i nf;exact(hI.obj j HP e).mono (Gh.le.refl G) (fun b e'=>hb b (fun o7=>nf (hI.inj i j B hi (o7▸e')))) (fun _ h=>h) (fun h=>h)
 ij:=fun j b e=>by rw[List.length_set];exact hI.ij j b e
 jv:=fun j r e=>by rw[List.length_set];exact hI.jv j r e
 inj:=hI.inj
 base:=fun j b e=>by rw[hs];exact hI.base j b e
 sep:=fun j b o v hf e e'=>by
  by_cases hj:i=j
  .subst hj;exact hI.sep i b o v uo e e'
  .exact hI.sep j b o v (fun o7=>hf (by grind)) e e'
 jw:=fun j r b c sz T e e'=>(hI.jw j r b c sz T e e').mono rfl (hb b (fun o7=>(hI.jw j r b c sz T e e').ρ i (o7▸hi))) (fun _ _ h=>h) (fun _ h=>h)
 kb:=hI.kb
 lp:=fun b D e=>by obtain⟨l,h1,h2,h3⟩:=hI.lp b D e;grind
 jx:=hI.jx
 gu:=fun D e=>⟨(hb D (fun e'=>hk (e'▸(hI.gu D e).1))).trans (hI.gu D e).1,(hI.gu D e).2⟩
 kn:=hI.kn
end
def dA(P:Program)(t:TypeId):Option Nat:=(P.info? t).map (·.size)
def tt(P:Program)(t:TypeId):Option Nat:=(P.info? t).map (·.bytes)
def jy(P:Program)(t:TypeId):Option Value:=(P.info? t).bind (·.zero)
def oG:Value->AV
 | .int k n=> .int k n
 | .bool b=> .bool b
 | .string s=> .str s
 | .pointer none=> .ptr none
 | .slice none 0 0=> .sl [] .full
 | .map none=> .map none
 | .nilFunc=> .nilFunc
 | .nilIface=> .nilIface
 |_=> .top
def zM:Value->AV
 | .agg cs=> .agg (cs.toList.map oG)
 | .tuple cs=> .tuple (cs.toList.map oG)
 |v=>oG v
theorem VR.agj(G own)(ho:Ff G [] none 0 0 own):VR G (.sl [] own) (.slice none 0 0):=
 VR.sl (rows:=[]) (sz:=0) (fun _ _=>undef) (Nat.le_refl _) (fun _=>rfl) (fun k r h=>by simp at h) (fun k r j c h=>by simp at h) (fun k r j c h=>by simp at h) ho
theorem V3(G v):VR G (oG v) v:=by unfold oG;split<;>first|exact .int _ _|exact .bool _|exact .str _|exact .rj|exact VR.agj G .full rfl|exact .rm|exact .nilFunc|exact .nilIface|exact .top _
theorem zN(G cs):b9 G (cs.toList.map oG) cs:=
 b9.rn (by simp) fun j c v e e'=>by
  have o7:cs.toList[j]? =some v:=by simpa using e'
  rw[List.getElem?_map,o7]at e;simp at e;subst e;exact V3 G v
theorem Fh(G v):VR G (zM v) v:=by
 unfold zM;split
 .exact .agg (zN G _).1 (zN G _).2
 .exact .tuple (zN G _).1 (zN G _).2
 .exact V3 G v
def ev(Γ:GG)(σ:Tm):Operand->AV
 | .tmp t=>lk σ t
 | .const v=>zM v
 | .global g=>match Γ g with
  |some cs=> .bS cs
  |none=> .top
 | .func f=> .func f [] []
def iw(P:Program)(Γ:GG)(G:Gh)(w:World)(s:Sem Value)(K:AV->AH->Prop):Prop:=
 ∃u w' G' av h',s.run P w= .ok u w'/\G.le G'/\Inv Γ G' h' w'/\VR G' av u/\K av h'
def LR(P:Program)(Γ:GG)(G:Gh)(w:World)(s:Sem Unit)(K:AH->Prop):Prop:=
 ∃w' G' h',s.run P w= .ok () w'/\G.le G'/\Inv Γ G' h' w'/\K h'
section
variable {P:Program} {Γ:GG} {G:Gh} {h:AH} {w:World} {N:Nat} {σ:Tm}
theorem oH(hI:Inv Γ G h w){a:Act}(ht:TR N G σ a.tmps)(x):VR G (ev Γ σ x) (a.eval x):=by
 cases x with
 |tmp t=>exact ht.2 t
 |const v=>exact Fh G v
 |global g=>
  simp only[ev,Act.eval];cases hg:Γ g with
  |none=>exact .top _
  |some cs=>exact hI.kn g cs hg
 |func f=>exact .func rfl rfl (fun j c e=>by simp at e) (fun j c e=>by simp at e)
theorem o8{t n}(e:dA P t=some n)(w):(sizeOf t).run P w= .ok n w:=by
 unfold dA at e;cases hi:P.info? t with
 |none=>simp[hi]at e
 |some i=>simp[hi]at e;simp[sizeOf,typeInfo,hi,e]
theorem vB{t z}(e:jy P t=some z)(w):(zeroValue t).run P w= .ok z w:=by
 unfold jy at e;cases hi:P.info? t with
 |none=>simp[hi]at e
 |some i=>simp[hi]at e;simp[zeroValue,typeInfo,hi,e]
def HR:TypeDesc->Bool
 | .struct _| .array _ _=>true
 |_=>false
theorem LS{t d}(e:P.underlying t=some d)(w):(isAgg t).run P w= .ok (HR d) w:=by cases d<;>simp[isAgg,run_underlying e,HR]
def rz(P:Program)(t:TypeId)(cs:List AV)(k:AV->Prop):Prop:=
 match P.underlying t with
 |none=>False
 |some d=>if HR d then(match dA P t with
   |some n=>n<=cs.length/\k (.agg (cs.take n))
   |none=>False)else(match cs with
   |c::_=>k c
   |[]=>False)
def At(G:Gh)(w:World)(b o:Nat)(cs:List AV):Prop:=∀j c,cs[j]? =some c->∃v,w.cell? ⟨b,o+j,none⟩=some v/\VR G c v
theorem At.drop{b o cs}(hA:At G w b o cs)(n):At G w b (o+n) (cs.drop n):=fun j c e=>by rw[List.getElem?_drop]at e;obtain⟨v,h1,h2⟩:=hA _ c e;grind
theorem At.agk(hI:Inv Γ G h w){cs b o}(hv:VR G (.bS cs) (.pointer (some ⟨b,o,none⟩))):At G w b o cs:=by
 cases hv with
 |bS vals hF hv=>exact fun j c e=>⟨vals j,hI.fix _ _ _ (hF j c e),hv j c e⟩
theorem At.P8{b vals T cs}(hb:w.heap[b]? =some (.cells vals T (0,0)))(hv:b9 G cs vals):At G w b 0 cs:=fun j c e=>by obtain⟨v,h1,h2⟩:=hv.get e;exact⟨v,by rw[cell_of hb,Nat.zero_add];exact h1,h2⟩
theorem V4{t b o cs}(hA:At G w b o cs){k}(H:rz P t cs k):
  ∃u av,(loadVar t ⟨b,o,none⟩).run P w= .ok u w/\VR G av u/\k av:=by
 unfold rz at H;split at H
 .exact H.elim
 .rename_i d hd;split at H
  .rename_i ha;split at H
   .rename_i n hn;obtain⟨hle,hk⟩:=H;have hr:=run_loadCells (P:=P) w ⟨b,o,none⟩ n (fun j=>(w.cell? ⟨b,o+j,none⟩).getD undef) (fun j hj=>by obtain⟨v,h1,_⟩:=hA j _ (List.getElem?_eq_getElem (show j<cs.length by omega));rw[Addr.add_lit,h1];rfl)
    refine⟨.agg ((List.range n).map fun j=>(w.cell? ⟨b,o+j,none⟩).getD undef).toArray,_,?_,?_,hk⟩
    .simp only[loadVar,Sem.run_bind,LS hd,ha,Result.andThen_ok,if_true,o8 hn,hr,Sem.run_pure]
    .have hs:b9 G (cs.take n) ((List.range n).map fun j=>(w.cell? ⟨b,o+j,none⟩).getD undef).toArray:=
      b9.rn (by simp;omega) fun j c v e e'=>by
       rw[List.getElem?_take]at e;split at e
       .rename_i hj;obtain⟨u,h1,h2⟩:=hA j c e;grind
       .cases e
     exact .agg hs.1 hs.2
   .exact H.elim
  .rename_i ha;split at H
   .rename_i c rest;obtain⟨v,h1,h2⟩:=hA 0 c rfl;refine⟨v,c,?_,h2,H⟩;simp only[Bool.not_eq_true]at ha;simp only[loadVar,Sem.run_bind,LS hd,ha,Result.andThen_ok,Bool.false_eq_true,if_false,run_load];rw[Nat.add_zero]at h1;rw[h1]
   .exact H.elim
def oI(P:Program)(t:TypeId)(a:AV)(h:AH)(K:AV->AH->Prop):Prop:=
 match a with
 | .ptr (some (i,o))=>match h[i]? with
  |some (.row cs _)=>rz P t (cs.drop o) fun v=>K v h
  |_=>False
 | .bS cs=>rz P t cs fun v=>K v h
 |_=>False
theorem P9(hI:Inv Γ G h w){t a v}(ha:VR G a v){K}(H:oI P t a h K):∃ad u av,v= .pointer (some ad)/\(loadVar t ad).run P w= .ok u w/\VR G av u/\K av h:=by
 unfold oI at H;split at H
 .rename_i i o;split at H
  .rename_i cs T gw;obtain⟨b,vals,h1,h2,h3⟩:=hI.row gw;cases ha with
   |ptr hb=>
    rw[h1]at hb;cases hb;obtain⟨u,av,r,hv,hk⟩:=V4 ((At.P8 h2 h3).drop o) H;grind
  .exact H.elim
 .cases ha with
  |bS vals hF hv=>
   obtain⟨u,av,r,hv,hk⟩:=V4 (At.agk hI (.bS vals hF hv)) H;exact⟨_,u,av,rfl,r,hv,hk⟩
 .exact H.elim
theorem agl(hI:Inv Γ G h w){t a v}(ha:VR G a v){K}(H:oI P t a h K):iw P Γ G w (Instr.loadAt t v) K:=by obtain⟨ad,u,av,rfl,r,hv,hk⟩:=P9 hI ha H;exact⟨u,w,G,av,h,by simp[Instr.loadAt,Instr.sureAddr,r],Gh.le.refl G,hI,hv,hk⟩
def AV.nA:AV->Bool
 | .tuple _| .top=>false
 | .agg cs=>cs.all AV.one
 |_=>true
theorem AV.LU{a:AV}(h:a.nA=true):(∀c∈a.cells,c.one=true)/\(a.one=true\/∃cs,a= .agg cs):=by
 cases a with
 |agg cs=>exact⟨fun c hc=>List.all_eq_true.1 h c hc,.inr ⟨cs,rfl⟩⟩
 |tuple _=>simp[AV.nA]at h
 |top=>simp[AV.nA]at h
 |_=>exact⟨fun c hc=>by simp[AV.cells]at hc;subst hc;rfl,.inl rfl⟩
theorem b9.P_{cs vals}(hv:b9 G cs vals)(ho:∀c∈cs,c.one=true):∀v∈vals.toList,v.oneCell'=true:=fun v hm=>by
 obtain⟨j,hj,e⟩:=List.getElem_of_mem hm;have jU:j<cs.length:=by rw[hv.1];simpa using hj
 obtain⟨u,h1,h2⟩:=hv.get (List.getElem?_eq_getElem jU);have:u=v:=by
  have:vals.toList[j]? =some v:=by rw[List.getElem?_eq_getElem hj,e]
  rw[Array.getElem?_toList]at this;rw[h1]at this;exact Option.some.inj this
 subst this;exact h2.agh (ho _ (List.getElem_mem jU))
def iU(cs:List AV)(o:Nat)(xs:List AV):List AV:=
 match xs with
 |[x]=>cs.set o x
 |_=>cs.take o++xs++cs.drop (o+xs.length)
theorem V5(cs o xs)(hl:o+xs.length<=cs.length)(j):(iU cs o xs)[j]? =if o<=j/\j<o+xs.length then xs[j-o]? else cs[j]? :=by
 have key:(cs.take o++xs++cs.drop (o+xs.length))[j]? =if o<=j/\j<o+xs.length then xs[j-o]? else cs[j]? :=by
  have ho:(cs.take o).length=o:=by simp;omega
  rw[List.getElem?_append,List.length_append,ho,List.getElem?_append,ho];by_cases h1:j<o
  .grind
  grind
 unfold iU;split
 .grind
 .exact key
theorem Qa(cs o xs)(hl:o+xs.length<=cs.length):(iU cs o xs).length=cs.length:=by
 unfold iU;split
 .simp
 .simp;omega
theorem b9.iU{cs xs:List AV}{vals ys:Array Value}{o:Nat}(hv:b9 G cs vals)(hx:b9 G xs ys)(hl:o+xs.length<=cs.length):
  b9 G (iU cs o xs) (vals.toList.take o++ys.toList++vals.toList.drop (o+ys.toList.length)).toArray:=by
 have Qb:vals.toList.length=cs.length:=by simp[hv.1]
 have yo:ys.toList.length=xs.length:=by simp[hx.1]
 refine b9.rn (by rw[Qa cs o xs hl];grind) fun j c v e e'=>?_;rw[V5 cs o xs hl]at e;rw[List.getElem?_toArray]at e';have ho:(vals.toList.take o).length=o:=by rw[List.length_take];omega
 rw[List.getElem?_append,List.length_append,ho,List.getElem?_append,ho,yo]at e';by_cases h1:j<o
 .rw[if_pos (by omega),if_pos h1,List.getElem?_take,if_pos h1,Array.getElem?_toList]at e';rw[if_neg (by omega)]at e;obtain⟨u,k1,k2⟩:=hv.get e;rw[k1]at e';cases e';exact k2
 .by_cases h2:j<o+xs.length
  .rw[if_pos h2,if_neg h1,Array.getElem?_toList]at e';rw[if_pos ⟨by omega,h2⟩]at e;obtain⟨u,k1,k2⟩:=hx.get e;rw[k1]at e';cases e';exact k2
  .rw[if_neg h2,List.getElem?_drop,Array.getElem?_toList]at e';rw[if_neg (by omega)]at e;rw[show o+xs.length+(j-(o+xs.length))=j from by omega]at e';obtain⟨u,k1,k2⟩:=hv.get e;rw[k1]at e';cases e';exact k2
def vC(P:Program)(t:TypeId)(a x:AV)(h:AH)(K:AH->Prop):Prop:=
 match a with
 | .ptr (some (i,o))=>match h[i]? with
  |some (.row cs T)=>dA P t=some x.cells.length/\x.nA=true/\o+x.cells.length<=cs.length/\K (h.set i (.row (iU cs o x.cells) T))
  |_=>False
 |_=>False
theorem Qc(w:World)(g k cur)(hk:k≠g):(w.setRow g cur).heap[k]? =w.heap[k]? :=by simp only[World.setRow,Array.getElem?_modify];rw[if_neg (fun e=>hk e.symm)]
theorem agm(hI:Inv Γ G h w){t a x v u}(ha:VR G a v)(hx:VR G x u){K}(H:vC P t a x h K):LR P Γ G w (Instr.storeAt t v u) K:=by
 unfold vC at H;split at H
 .rename_i i o;split at H
  .rename_i cs T gw;obtain⟨cj,Fi,ss,hk⟩:=H;obtain⟨b,vals,h1,h2,h3⟩:=hI.row gw;cases ha with
   |ptr hb=>
    rw[h1]at hb;cases hb;have hc:=hx.cells (AV.LU Fi).2;have wK:=hc.P_ (AV.LU Fi).1;have fC:=run_storeCells_at P b o T u.cells.toList 0 vals w h2 (by have:=h3.1;have:=hc.1;simp only[Array.length_toList];omega) wK;simp only[Nat.add_zero]at fC;refine⟨w.setRow b (vals.toList.take o++u.cells.toList++vals.toList.drop (o+u.cells.toList.length)).toArray,G,_,?_,Gh.le.refl G,?_,hk⟩
    .simp only[Instr.storeAt,Instr.sureAddr,Sem.run_bind,Sem.run_pure,Result.andThen_ok,storeVar,o8 cj,hc.1,ne_eq,not_true_eq_false,if_false,fC]
    .have lb:=setRow_heap w b vals (vals.toList.take o++u.cells.toList++vals.toList.drop (o+u.cells.toList.length)).toArray T (0,0) h2;refine hI.write (w':=w.setRow b (vals.toList.take o++u.cells.toList++vals.toList.drop (o+u.cells.toList.length)).toArray) h1 (by simp[World.setRow]) rfl rfl rfl (fun k ng=>Qc w b k _ ng) _ ?_ ?_ (by rw[h2];simp) (by rw[gw];simp)
     .exact⟨b,_,h1,lb,h3.iU hc ss⟩
     .intro D hD;obtain⟨l,k1,_⟩:=hI.lp b D hD;rw[h2]at k1;cases k1
  .exact H.elim
 .exact H.elim
def Dc(t:TypeId)(x:AV)(h:AH)(K:AV->AH->Prop):Prop:=x.nA=true/\K (.ptr (some (h.length,0))) (h++[.row x.cells t])
theorem Fj(hI:Inv Γ G h w){t cs vals}(hv:b9 G cs vals):
  Inv Γ (G.add h.length w.heap.size) (h++[.row cs t]) (w.alloc (.cells vals t)):=
 hI.alloc _ _ ⟨w.heap.size,vals,Gh.add_same _ _ _,heap_alloc_new w _,hv.mono (hI.uk _)⟩
theorem agn(hI:Inv Γ G h w){t x u}(hx:VR G x u){K}(H:Dc t x h K):iw P Γ G w (Instr.box t u) K:=
 ⟨.pointer (some ⟨w.heap.size,0,none⟩),w.alloc (.cells u.cells t),G.add h.length w.heap.size,_,_,by simp[Instr.box,newVar,newRow],hI.uk _,
  Fj hI (hx.cells (AV.LU H.1).2),.ptr (Gh.add_same _ _ _),H.2⟩
def vD(P:Program)(t:TypeId)(h:AH)(K:AV->AH->Prop):Prop:=
 match jy P t with
 |some z=>K (.ptr (some (h.length,0))) (h++[.row (z.cells.toList.map oG) t])
 |none=>False
theorem ago(hI:Inv Γ G h w){t K}(H:vD P t h K):iw P Γ G w (Instr.alloc t true (.tuple #[])) K:=by
 unfold vD at H;split at H
 .rename_i z hz;exact⟨.pointer (some ⟨w.heap.size,0,none⟩),w.alloc (.cells z.cells t),G.add h.length w.heap.size,_,_,by simp[Instr.alloc,vB hz,newVar,newRow],hI.uk _,
   Fj hI (zN G z.cells),.ptr (Gh.add_same _ _ _),H⟩
 .exact H.elim
def yq(P:Program)(s:TypeId)(a:AV)(f:Nat)(K:AV->Prop):Prop:=
 match P.underlying s with
 |some (.struct fields)=>match fields[f]? with
  |some fd=>(∃n,dA P fd.type=some (n+1))/\(match a with
   | .ptr (some (i,o))=>K (.ptr (some (i,o+fd.offset)))
   | .bS cs=>K (.bS (cs.drop fd.offset))
   |_=>False)
  |none=>False
 |_=>False
theorem VR.V6{cs b o}(hv:VR G (.bS cs) (.pointer (some ⟨b,o,none⟩)))(n):VR G (.bS (cs.drop n)) (.pointer (some ⟨b,o+n,none⟩)):=by
 cases hv with
 |bS vals hF hv=>
  exact .bS (fun j=>vals (n+j)) (fun j c e=>by grind)
   (fun j c e=>by grind)
theorem agp(hI:Inv Γ G h w){s a v f}(ha:VR G a v){K}(H:yq P s a f fun v=>K v h):iw P Γ G w (Instr.fieldAt s v f) K:=by
 unfold yq at H;split at H
 .rename_i fields hs;split at H
  .rename_i fd Qd;obtain⟨⟨n,hn⟩,H⟩:=H;have hr:∀b o,(Instr.fieldAt s (.pointer (some ⟨b,o,none⟩)) f).run P w= .ok (.pointer (some ⟨b,o+fd.offset,none⟩)) w:=fun b o=>by simp[Instr.fieldAt,run_underlying hs,Qd,Instr.sureAddr,fieldPlace,o8 hn,Addr.add_lit]
   split at H
   .rename_i i o;cases ha with
    |ptr hb=>exact⟨_,w,G,_,h,hr _ _,Gh.le.refl G,hI,.ptr hb,H⟩
   .rename_i cs;cases ha with
    |bS vals hF hv=>exact⟨_,w,G,_,h,hr _ _,Gh.le.refl G,hI,(VR.bS vals hF hv).V6 _,H⟩
   .exact H.elim
  .exact H.elim
 .exact H.elim
theorem V7{t cs vals}(hv:b9 G cs vals)(off){k}(H:rz P t (cs.drop off) k)(w):
  ∃u av,(part t vals off).run P w= .ok u w/\VR G av u/\k av:=by
 unfold rz at H;split at H
 .exact H.elim
 .rename_i d hd;split at H
  .rename_i ha;split at H
   .rename_i n hn;obtain⟨hle,hk⟩:=H;refine⟨.agg (vals.extract off (off+n)),.agg ((cs.drop off).take n),?_,?_,hk⟩
    .simp only[part,Sem.run_bind,LS hd,ha,Result.andThen_ok,if_true,o8 hn,Sem.run_pure]
    .have hs:b9 G ((cs.drop off).take n) (vals.extract off (off+n)):=
      b9.rn (by have:=hv.1;simp at hle|-;omega) fun j c v e e'=>by
       rw[List.getElem?_take]at e;split at e
       .rename_i hj;rw[List.getElem?_drop]at e;obtain⟨u,k1,k2⟩:=hv.get e;grind
       .cases e
     exact .agg hs.1 hs.2
   .exact H.elim
  .rename_i ha;split at H
   .rename_i c rest hc;have e:cs[off]? =some c:=by
     have:(cs.drop off)[0]? =some c:=by rw[hc];rfl
     grind
    obtain⟨v,k1,k2⟩:=hv.get e;simp only[Bool.not_eq_true]at ha;exact⟨v,c,by simp only[part,Sem.run_bind,LS hd,ha,Result.andThen_ok,Bool.false_eq_true,if_false,k1,Sem.run_pure],k2,H⟩
   .exact H.elim
def Fk(P:Program)(t:TypeId)(x:AV)(f:Nat)(K:AV->Prop):Prop:=
 match P.underlying t with
 |some (.struct fields)=>match fields[f]?,x with
  |some fd,.agg cs=>rz P fd.type (cs.drop fd.offset) K
  |_,_=>False
 |_=>False
theorem agq(hI:Inv Γ G h w){t x u f}(hx:VR G x u){K}(H:Fk P t x f fun v=>K v h):iw P Γ G w (Instr.field t u f) K:=by
 unfold Fk at H;split at H
 .rename_i fields hs;split at H
  .rename_i fd cs Qd;cases hx with
   |agg hl hv=>
    obtain⟨u,av,r,oa,hk⟩:=V7 (P:=P) ⟨hl,hv⟩ fd.offset H w;exact⟨u,w,G,av,h,by simp[Instr.field,run_underlying hs,Qd,asAgg,r],Gh.le.refl G,hI,oa,hk⟩
  .exact H.elim
 .exact H.elim
def yr(P:Program)(t:TypeId)(x i:AV)(K:AV->Prop):Prop:=
 match i with
 | .int _ n=>match P.underlying t with
  |some (.slice e)=>(match dA P e with
   |some sz=>(match x with
    | .sl rows _=>sz≠0/\0<=n/\∃r,rows[n.toNat]? =some r/\r.cells.length=sz/\K (.bS r.cells)
    | .ms j off len _ _=>0<=n/\n<len/\K (.ptr (some (j,off+n.toNat*sz)))
    |_=>False)
   |none=>False)
  |some (.array len e)=>(match dA P e with
   |some sz=>0<=n/\n<len/\(match x with
    | .ptr (some (j,o))=>K (.ptr (some (j,o+n.toNat*sz)))
    | .bS cs=>K (.bS (cs.drop (n.toNat*sz)))
    |_=>False)
   |none=>False)
  |_=>False
 |_=>False
theorem agr(hI:Inv Γ G h w){t x i v u}(hx:VR G x v)(hi:VR G i u){K}(H:yr P t x i fun v=>K v h):iw P Γ G w (Instr.indexAt t v u) K:=by
 unfold yr at H;split at H
 .rename_i k n;cases hi with
  |int=>
   split at H
   .rename_i e ht;split at H
    .rename_i sz cj;split at H
     .rename_i rows own;obtain⟨hz,hn,r,hr,ik,hk⟩:=H;have dN:n.toNat<rows.length:=(List.getElem?_eq_some_iff.1 hr).1;cases hx with
      |sl vals jc iT hs hF hv cP=>
       rename_i a cap rp;have ags:rp=sz:=(hs _ r hr).symm.trans ik;subst ags;cases ha:a with
       |none=>have:=iT ha;omega
       |some ad=>
        obtain⟨ab,ao,Qe⟩:=ad;obtain⟨c,hc⟩:∃c,r.cells[0]? =some c:=⟨_,List.getElem?_eq_getElem (by omega)⟩;obtain⟨b,o,e1,e2⟩:=hF _ r 0 c hr hc;rw[ha]at e1;cases e1;refine⟨.pointer (some ⟨ab,ao+n.toNat*rp,none⟩),w,G,_,h,?_,Gh.le.refl G,hI,?_,hk⟩
        .have:n<(rows.length:Int):=by omega
         simp[Instr.indexAt,asIntOf,run_underlying ht,o8 cj,hn,this,Addr.add_lit]
        .refine .bS (fun j=>vals n.toNat j) (fun j c' e=>?_) (fun j c' e=>hv _ r j c' hr e);grind
     .rename_i j off len cap rp;obtain⟨hn,dN,hk⟩:=H;cases hx with
      |ms hb=>
       exact⟨_,w,G,_,h,by simp[Instr.indexAt,asIntOf,run_underlying ht,o8 cj,hn,dN,Addr.add_lit],Gh.le.refl G,hI,.ptr hb,hk⟩
     .exact H.elim
    .exact H.elim
   .rename_i len e ht;split at H
    .rename_i sz cj;obtain⟨hn,dN,H⟩:=H;split at H
     .cases hx with
      |ptr hb=>exact⟨_,w,G,_,h,by simp[Instr.indexAt,asIntOf,run_underlying ht,o8 cj,hn,dN,Addr.add_lit,Instr.sureAddr],Gh.le.refl G,hI,.ptr hb,H⟩
     .cases hx with
      |bS vals hF hv=>exact⟨_,w,G,_,h,by simp[Instr.indexAt,asIntOf,run_underlying ht,o8 cj,hn,dN,Addr.add_lit,Instr.sureAddr],Gh.le.refl G,hI,(VR.bS vals hF hv).V6 _,H⟩
     .exact H.elim
    .exact H.elim
   .exact H.elim
 .exact H.elim
end
section
variable {P:Program} {Γ:GG} {G:Gh} {h:AH} {w:World} {N:Nat} {σ:Tm}
theorem iw.pure'(hI:Inv Γ G h w){s u av K}(hr:s.run P w= .ok u w)(hv:VR G av u)(hk:K av h):iw P Γ G w s K:=
 ⟨u,w,G,av,h,hr,Gh.le.refl G,hI,hv,hk⟩
def BE(op:BinOp)(k:IntKind)(x y:Int):Int:=
 let a:=BitVec.ofInt k.bits x;let b:=BitVec.ofInt k.bits y;match op with
 | .and=>k.wrap (a&&&b).toNat
 | .or=>k.wrap (a|||b).toNat
 | .xor=>k.wrap (a^^^b).toNat
 | .andNot=>k.wrap (a&&&~~~b).toNat
 |_=>0
def jq(op:BinOp)(k:IntKind)(a:Int)(k':IntKind)(b:Int)(K:AV->Prop):Prop:=
 match op with
 | .shl=>0<=b/\K (.int k (k.wrap (a*2^(min b.toNat k.bits))))
 | .shr=>0<=b/\K (.int k (a.fdiv (2^(min b.toNat k.bits))))
 | .add=>k=k'/\K (.int k (k.wrap (a+b)))
 | .sub=>k=k'/\K (.int k (k.wrap (a-b)))
 | .mul=>k=k'/\K (.int k (k.wrap (a*b)))
 | .quo=>k=k'/\b≠0/\K (.int k (k.wrap (a.tdiv b)))
 | .rem=>k=k'/\b≠0/\K (.int k (a.tmod b))
 | .eql=>k=k'/\K (.bool (decide (a=b)))
 | .neq=>k=k'/\K (.bool (decide (a≠b)))
 | .lss=>k=k'/\K (.bool (decide (a<b)))
 | .leq=>k=k'/\K (.bool (decide (a<=b)))
 | .gtr=>k=k'/\K (.bool (decide (b<a)))
 | .geq=>k=k'/\K (.bool (decide (b<=a)))
 |op=>k=k'/\K (.int k (BE op k a b))
def zO(op:BinOp)(a b:ByteArray)(K:AV->Prop):Prop:=
 match op with
 | .add=>a.size+b.size<=9223372036854775807/\K (.str (a++b))
 | .eql=>K (.bool (a.toList==b.toList))
 | .neq=>K (.bool (!(a.toList==b.toList)))
 | .lss=>K (.bool (Op.bytesLess a.toList b.toList))
 | .leq=>K (.bool (Op.bytesLess a.toList b.toList||a.toList==b.toList))
 | .gtr=>K (.bool (!(Op.bytesLess a.toList b.toList||a.toList==b.toList)))
 | .geq=>K (.bool (!(Op.bytesLess a.toList b.toList)))
 |_=>False
def su(P:Program)(op:BinOp)(t:TypeId)(x y:AV)(K:AV->Prop):Prop:=
 match x,y with
 | .int k a,.int k' b=>jq op k a k' b K
 | .str a,.str b=>zO op a b K
 | .bool a,.bool b=>P.underlying t=some .bool/\(match op with
   | .eql=>K (.bool (a==b))
   | .neq=>K (.bool (!(a==b)))
   |_=>False)
 |_,_=>False
theorem agt(op k a k' b t){K}(H:jq op k a k' b K):∃u av,(binOp op t (.int k a) (.int k' b)).run P w= .ok u w/\VR G av u/\K av:=by
 cases op<;>simp only[jq]at H;case shl=>obtain⟨h0,hk⟩:=H;exact⟨_,_,by simp[binOp,Op.shift,show¬b<0 by omega]<;>rfl,.int _ _,hk⟩
 case shr=>obtain⟨h0,hk⟩:=H;exact⟨_,_,by simp[binOp,Op.shift,show¬b<0 by omega]<;>rfl,.int _ _,hk⟩
 case add=>obtain⟨rfl,hk⟩:=H;exact⟨_,_,by simp[binOp,Op.intArith]<;>rfl,.int _ _,hk⟩
 case sub=>obtain⟨rfl,hk⟩:=H;exact⟨_,_,by simp[binOp,Op.intArith]<;>rfl,.int _ _,hk⟩
 case mul=>obtain⟨rfl,hk⟩:=H;exact⟨_,_,by simp[binOp,Op.intArith]<;>rfl,.int _ _,hk⟩
 case quo=>obtain⟨rfl,h0,hk⟩:=H;exact⟨_,_,by simp[binOp,Op.intDiv,h0]<;>rfl,.int _ _,hk⟩
 case rem=>obtain⟨rfl,h0,hk⟩:=H;exact⟨_,_,by simp[binOp,Op.intDiv,h0]<;>rfl,.int _ _,hk⟩
 case eql=>obtain⟨rfl,hk⟩:=H;exact⟨_,_,by simp only[binOp,Op.intCmp,ne_eq,not_true_eq_false,if_false,Sem.run_pure]<;>rfl,.bool _,hk⟩
 case neq=>obtain⟨rfl,hk⟩:=H;exact⟨_,_,by simp only[binOp,Op.intCmp,ne_eq,not_true_eq_false,if_false,Sem.run_pure]<;>rfl,by rw[show(a !=b)=decide (a≠b)from by simp[bne,BEq.beq]];exact .bool _,hk⟩
 case lss=>obtain⟨rfl,hk⟩:=H;exact⟨_,_,by simp only[binOp,Op.intCmp,ne_eq,not_true_eq_false,if_false,Sem.run_pure]<;>rfl,.bool _,hk⟩
 case leq=>obtain⟨rfl,hk⟩:=H;exact⟨_,_,by simp only[binOp,Op.intCmp,ne_eq,not_true_eq_false,if_false,Sem.run_pure]<;>rfl,.bool _,hk⟩
 case gtr=>obtain⟨rfl,hk⟩:=H;exact⟨_,_,by simp only[binOp,Op.intCmp,ne_eq,not_true_eq_false,if_false,Sem.run_pure]<;>rfl,.bool _,hk⟩
 case geq=>obtain⟨rfl,hk⟩:=H;exact⟨_,_,by simp only[binOp,Op.intCmp,ne_eq,not_true_eq_false,if_false,Sem.run_pure]<;>rfl,.bool _,hk⟩
 case and=>obtain⟨rfl,hk⟩:=H;exact⟨_,_,by simp only[binOp,Op.intBits,ne_eq,not_true_eq_false,if_false,Sem.run_pure]<;>rfl,.int _ _,hk⟩
 case or=>obtain⟨rfl,hk⟩:=H;exact⟨_,_,by simp only[binOp,Op.intBits,ne_eq,not_true_eq_false,if_false,Sem.run_pure]<;>rfl,.int _ _,hk⟩
 case xor=>obtain⟨rfl,hk⟩:=H;exact⟨_,_,by simp only[binOp,Op.intBits,ne_eq,not_true_eq_false,if_false,Sem.run_pure]<;>rfl,.int _ _,hk⟩
 case andNot=>obtain⟨rfl,hk⟩:=H;exact⟨_,_,by simp only[binOp,Op.intBits,ne_eq,not_true_eq_false,if_false,Sem.run_pure]<;>rfl,.int _ _,hk⟩
theorem agu(op a b t){K}(H:zO op a b K):∃u av,(binOp op t (.string a) (.string b)).run P w= .ok u w/\VR G av u/\K av:=by
 cases op<;>simp only[zO]at H;case add=>
  obtain⟨h0,hk⟩:=H;have:¬(((a.size+b.size:Nat):Int)>IntKind.i64.max):=by
   have:IntKind.i64.max=9223372036854775807:=by decide
   rw[this];omega
  refine⟨.string (a++b),_,?_,.str _,hk⟩;simp only[binOp,Op.stringOp];rw[if_neg this];rfl
 all_goals first
  |exact H.elim
  |exact⟨_,_,by simp only[binOp,Op.stringOp,Sem.run_pure]<;>rfl,.bool _,H⟩
theorem agv{op t x y k k' a b}(w):(eqGuard op t x y (.int k a) (.int k' b)).run P w= .ok () w:=by cases op<;>simp[eqGuard]
theorem agw{op t x y a b}(w):(eqGuard op t x y (.string a) (.string b)).run P w= .ok () w:=by cases op<;>simp[eqGuard]
theorem agx{op t x y a b}(w):(eqGuard op t x y (.bool a) (.bool b)).run P w= .ok () w:=by cases op<;>simp[eqGuard]
theorem Fl(t x y):Op.equal t x y=Op.equalIn (9999+1) t x y:=by unfold Op.equal;rfl
theorem agy(d){t a b}(ht:P.underlying t=some .bool)(w):(Op.equalIn (d+1) t (.bool a) (.bool b)).run P w= .ok (a==b) w:=by simp only[Op.equalIn,Sem.run_bind,run_underlying ht,Result.andThen_ok,Sem.run_pure]
theorem agz{t a b}(ht:P.underlying t=some .bool)(w):(Op.equal t (.bool a) (.bool b)).run P w= .ok (a==b) w:=by rw[Fl];exact agy 9999 ht w
theorem agA(hI:Inv Γ G h w){op t ox oy x y u v}(hx:VR G x u)(hy:VR G y v){K}(H:su P op t x y fun v=>K v h):
  iw P Γ G w (do eqGuard op t ox oy u v;binOp op t u v) K:=by
 unfold su at H;split at H
 .cases hx;cases hy;obtain⟨r,av,h1,h2,h3⟩:=agt (P:=P) (w:=w) (G:=G) op _ _ _ _ t H;exact .pure' hI (by simp only[Sem.run_bind,agv,Result.andThen_ok,h1]) h2 h3
 .cases hx;cases hy;obtain⟨r,av,h1,h2,h3⟩:=agu (P:=P) (w:=w) (G:=G) op _ _ t H;exact .pure' hI (by simp only[Sem.run_bind,agw,Result.andThen_ok,h1]) h2 h3
 .cases hx;cases hy;rename_i a b;obtain⟨ht,H⟩:=H;have he:=agz (a:=a) (b:=b) ht w;cases op<;>simp only at H<;>first
   |exact H.elim
   |exact .pure' hI (by simp only[Sem.run_bind,agx,Result.andThen_ok,binOp,he,Sem.run_pure]) (.bool _) H
 .exact H.elim
def yu(op:UnOp)(x:AV)(K:AV->Prop):Prop:=
 match op,x with
 | .not,.bool b=>K (.bool (!b))
 | .neg,.int k n=>K (.int k (k.wrap (0-n)))
 | .xor,.int k n=>K (.int k (BE .xor k (if k.signed then-1 else k.max) n))
 |_,_=>False
theorem agB(hI:Inv Γ G h w){op x u}(hx:VR G x u){K}(H:yu op x fun v=>K v h):iw P Γ G w (Op.unary op u) K:=by
 unfold yu at H;split at H
 .cases hx;exact .pure' hI (by simp[Op.unary]<;>rfl) (.bool _) H
 .cases hx;exact .pure' hI (by simp[Op.unary,Op.intArith]<;>rfl) (.int _ _) H
 .cases hx;exact .pure' hI (by simp only[Op.unary,Op.intBits,Sem.run_pure]<;>rfl) (.int _ _) H
 .exact H.elim
def wL(P:Program)(src dst:TypeId)(x:AV)(K:AV->Prop):Prop:=
 match P.underlying src,P.underlying dst,x with
 |some _,some (.int k),.int _ n=>K (.int k (k.wrap n))
 |some _,some .string,.str s=>K (.str s)
 |_,_,_=>False
theorem agC(hI:Inv Γ G h w){src dst x u}(hx:VR G x u){K}(H:wL P src dst x fun v=>K v h):iw P Γ G w (convert src dst u) K:=by
 unfold wL at H;split at H
 .rename_i d k _ n h1 h2;cases hx;exact .pure' hI (by simp[convert,run_underlying h1,run_underlying h2,Conv.intToInt]<;>rfl) (.int _ _) H
 .rename_i d s h1 h2;cases hx;exact .pure' hI (by simp[convert,run_underlying h1,run_underlying h2]<;>rfl) (.str _) H
 .exact H.elim
def yv(x:AV)(i:Nat)(K:AV->Prop):Prop:=
 match x with
 | .tuple vs=>match vs[i]? with
  |some v=>K v
  |none=>False
 |_=>False
theorem agD(hI:Inv Γ G h w){x u i}(hx:VR G x u){K}(H:yv x i fun v=>K v h):iw P Γ G w (Instr.extract u i) K:=by
 unfold yv at H;split at H
 .split at H
  .rename_i v hv;cases hx with
   |tuple hl HV=>
    obtain⟨y,h1,h2⟩:=b9.get ⟨hl,HV⟩ hv;exact .pure' hI (by simp[Instr.extract,h1]<;>rfl) h2 H
  .exact H.elim
 .exact H.elim
def sv(place:Nat->Option (Nat×Nat))(cells:List AV):List (Nat×AV)->(List AV->Prop)->Prop
 |[],k=>k cells
 |(i,x)::r,k=>match place i with
  |none=>False
  |some (o,n)=>x.cells.length=n/\(x.one=true\/∃cs,x= .agg cs)/\o+n<=cells.length/\sv place (iU cells o x.cells) r k
theorem agE(xs:List Value):∀(k) (cur) (o),o+k+xs.length<=cur.size->
  (xs.zipIdx k).foldl (fun(cs) (p)=>cs.setIfInBounds (o+p.2) p.1) cur=(cur.toList.take (o+k)++xs++cur.toList.drop (o+k+xs.length)).toArray:=by
 induction xs with
 |nil=>intro k cur o _;simp
 |cons x xs ih=>
  intro k cur o hl;simp only[List.length_cons]at hl;rw[List.zipIdx_cons,List.foldl_cons,ih (k+1) _ o (by simp;omega)];apply Array.ext';have:=list_seg_step cur.toList (o+k) x xs (by simp;omega);simpa [Array.toList_setIfInBounds,Nat.add_assoc]using this
theorem LV{place}:∀(parts) (vs) (cells) (vals),b9 G cells vals->
  parts.length=vs.length->(∀(j:Nat) (p) (q),parts[j]? =some p->vs[j]? =some q->p.1=q.1/\VR G p.2 q.2)->∀{k},sv place cells parts k->
  ∃out mL,Instr.fill place vals vs=some mL/\b9 G out mL/\k out:=by
 intro parts;induction parts with
 |nil=>
  intro vs cells vals hv hl _ k H;cases vs with
  |nil=>exact⟨cells,vals,rfl,hv,H⟩
  |cons _ _=>simp at hl
 |cons p r ih=>
  intro vs cells vals hv hl hp k H;cases vs with
  |nil=>simp at hl
  |cons q s=>
   obtain⟨i,x⟩:=p;obtain⟨i',v⟩:=q;obtain⟨e,V8⟩:=hp 0 _ _ rfl rfl;simp only at e V8;subst e;unfold sv at H;split at H
   .exact H.elim
   .rename_i o n ko;obtain⟨h1,h2,h3,H⟩:=H;have hc:=V8.cells h2;have nB:v.cells.size=n:=by rw[<-hc.1];exact h1
    have HV:=hv.iU (o:=o) hc (by omega);obtain⟨out,mL,f1,f2,f3⟩:=ih s _ _ HV (by simpa using hl) (fun j p q e1 e2=>hp (j+1) p q e1 e2) H;refine⟨out,mL,?_,f2,f3⟩;have auv:(v.cells.zipIdx.foldl (fun cs (p:Value×Nat)=>cs.setIfInBounds (o+p.2) p.1) vals)=(vals.toList.take o++v.cells.toList++vals.toList.drop (o+v.cells.toList.length)).toArray:=by rw[<-Array.foldl_toList,Array.toList_zipIdx];have:=agE v.cells.toList 0 vals o (by have:=hv.1;simp;omega);simpa using this
    simp only[Instr.fill,ko,nB];rw[if_neg (by have:=hv.1;simp;omega)];grind
def jV(Γ:GG)(σ:Tm)(parts:Array (Nat×Operand)):List (Nat×AV):=parts.toList.map fun(i,x)=>(i,ev Γ σ x)
def Fm(P:Program)(fields:List Field):Option (List (Nat×Nat)):=fields.mapM fun f=>(dA P f.type).map fun n=>(f.offset,n)
def kq(P:Program)(t:TypeId)(parts:List (Nat×AV))(K:AV->Prop):Prop:=
 match P.underlying t,jy P t with
 |some (.struct fields),some z=>(match Fm P fields.toList with
  |some pl=>sv (fun i=>pl[i]?) (z.cells.toList.map oG) parts fun cs=>K (.agg cs)
  |none=>False)
 |some (.array _ e),some z=>(match dA P e with
  |some n=>sv (fun i=>some (i*n,n)) (z.cells.toList.map oG) parts fun cs=>K (.agg cs)
  |none=>False)
 |_,_=>False
theorem agF{fields}:∀{pl},Fm P fields=some pl->∀w,(fields.mapM (fun f=>do pure (f.offset,<-sizeOf f.type):Field->Sem (Nat×Nat))).run P w= .ok pl w:=by
 induction fields with
 |nil=>intro pl e w;simp[Fm]at e;subst e;rfl
 |cons f r ih=>
  intro pl e w;simp only[Fm,List.mapM_cons,Option.bind_eq_bind,Option.bind_eq_some_iff,Option.map_eq_some_iff,Option.pure_def,Option.some.injEq]at e;obtain⟨a,⟨n,hn,rfl⟩,pl',ko,rfl⟩:=e;simp only[List.mapM_cons,Sem.run_bind,o8 hn,Result.andThen_ok,Sem.run_pure,ih ko w]
theorem agG(hI:Inv Γ G h w){t:TypeId}{parts:Array (Nat×Operand)}{a:Act}(ht:TR N G σ a.tmps){K:AV->AH->Prop}(H:kq P t (jV Γ σ parts) fun v=>K v h):
  iw P Γ G w (Instr.build t (parts.map fun(i,x)=>(i,a.eval x))) K:=by
 have hlen:(jV Γ σ parts).length=(parts.map fun(i,x)=>(i,a.eval x)).toList.length:=by simp[jV]
 have BF:∀(j:Nat) (p:Nat×AV) (q:Nat×Value),(jV Γ σ parts)[j]? =some p->(parts.map fun(i,x)=>(i,a.eval x)).toList[j]? =some q->p.1=q.1/\VR G p.2 q.2:=fun j p q e1 e2=>by simp only[jV,List.getElem?_map,Option.map_eq_some_iff,Array.toList_map]at e1 e2;obtain⟨⟨i,x⟩,h1,rfl⟩:=e1;obtain⟨⟨i',x'⟩,h2,rfl⟩:=e2;rw[h1]at h2;cases h2;exact⟨rfl,oH hI ht x⟩
 unfold kq at H;split at H
 .rename_i fields z hd hz;split at H
  .rename_i pl ko;obtain⟨out,mL,f1,f2,f3⟩:=LV (G:=G) (jV Γ σ parts) (parts.map fun(i,x)=>(i,a.eval x)).toList _ _ (zN G z.cells) hlen BF H;have hm:(fields.mapM (fun f=>do pure (f.offset,<-sizeOf f.type):Field->Sem (Nat×Nat))).run P w= .ok pl.toArray w:=by rw[Array.mapM_eq_mapM_toList,Sem.run_map,agF ko w];rfl
   refine .pure' hI (u:= .agg mL) ?_ (.agg f2.1 f2.2) f3;simp only[Instr.build,Sem.run_bind,vB hz,Result.andThen_ok,run_underlying hd,hm,List.getElem?_toArray,f1,Sem.run_pure]
  .exact H.elim
 .rename_i len e z hd hz;split at H
  .rename_i n hn;obtain⟨out,mL,f1,f2,f3⟩:=LV (G:=G) (jV Γ σ parts) (parts.map fun(i,x)=>(i,a.eval x)).toList _ _ (zN G z.cells) hlen BF H;refine .pure' hI (u:= .agg mL) ?_ (.agg f2.1 f2.2) f3;simp only[Instr.build,Sem.run_bind,vB hz,Result.andThen_ok,run_underlying hd,o8 hn,f1,Sem.run_pure]
  .exact H.elim
 .exact H.elim
end
def db(n:Nat)(rows:List AV):Prop:=∀r∈rows,r.cells.length=n/\∀c∈r.cells,c.one=true
theorem db.nil(n):db n []:=fun r h=>by simp at h
theorem db.append{n a b}(h:db n a)(k:db n b):db n (a++b):=fun r hr=>(List.mem_append.1 hr).elim (h r) (k r)
theorem db.cons{n a b}(h1:a.cells.length=n)(h2:∀c∈a.cells,c.one=true)(k:db n b):db n (a::b):=fun r hr=>by
 rcases List.mem_cons.1 hr with rfl|hr
 .exact⟨h1,h2⟩
 .exact k r hr
theorem db.take{n a}(h:db n a)(k):db n (a.take k):=fun r hr=>h r (List.mem_of_mem_take hr)
theorem db.drop{n a}(h:db n a)(k):db n (a.drop k):=fun r hr=>h r (List.mem_of_mem_drop hr)
theorem db.map{α:Type}{n f}(hf:∀x,(f x).cells.length=n/\∀c∈(f x).cells,c.one=true)(l:List α):db n (l.map f):=fun r hr=>by grind
theorem db.int{k}(l:List Int):db 1 (l.map (AV.int k)):=db.map (f:=AV.int k) (fun _=>⟨rfl,fun c hc=>by simp[AV.cells]at hc;subst hc;rfl⟩) l
theorem db.bool(l:List Bool):db 1 (l.map AV.bool):=db.map (f:=AV.bool) (fun _=>⟨rfl,fun c hc=>by simp[AV.cells]at hc;subst hc;rfl⟩) l
def flat(rows:List AV):List AV:=rows.flatMap AV.cells
theorem LW(r rows):flat (r::rows)=r.cells++flat rows:=by simp[flat]
theorem V9(a b):flat (a++b)=flat a++flat b:=by simp[flat]
theorem wM{n:Nat}:∀{rows:List AV},(∀r∈rows,r.cells.length=n)->(flat rows).length=rows.length*n
 |[],_=>by simp[flat]
 |r::rows,h=>by rw[LW,List.length_append,h r (by simp),wM (fun x hx=>h x (by simp[hx])),List.length_cons,Nat.add_mul,Nat.one_mul,Nat.add_comm]
theorem Fo{n:Nat}:∀{rows:List AV},(∀r∈rows,r.cells.length=n)->∀(k:Nat) (r:AV) (j:Nat),rows[k]? =some r->j<n->(flat rows)[k*n+j]? =r.cells[j]?
 |[],_,k,r,j,e,_=>by simp at e
 |r0::rows,h,k,r,j,e,hj=>by
  have h0:=h r0 (by simp);rw[LW];cases k with
  |zero=>
   grind
  |succ k=>
   simp at e;rw[List.getElem?_append_right (by rw[h0,Nat.add_mul];omega),h0,Nat.add_mul,Nat.one_mul,show k*n+n+j-n=k*n+j from by omega];exact Fo (fun x hx=>h x (by simp[hx])) k r j e hj
theorem agH{k n j m:Nat}(hk:k<m)(hj:j<n):k*n+j<m*n:=by have:(k+1)*n<=m*n:=Nat.mul_le_mul_right n hk;grind
section
variable {P:Program} {Γ:GG} {G:Gh} {h:AH} {w:World} {N:Nat} {σ:Tm}
theorem VR.LX(hI:Inv Γ G h w){rows own a len cap n}(hv:VR G (.sl rows own) (.slice a len cap))(hr:∀r∈rows,r.cells.length=n):
  ∃olds:List Value,olds.length=rows.length*n/\b9 G (flat rows) olds.toArray/\
   ∀w',w'.heap=w.heap->(Builtin.firstCells n rows.length (.slice a len cap)).run P w'= .ok olds.toArray w':=by
 cases hv with
 |sl vals jc iT cj hF hv cP=>
  rename_i sz;by_cases he:rows=[]
  .subst he;refine⟨[],by simp,b9.nil G,fun w' _=>?_⟩;cases a<;>simp[Builtin.firstCells,loadCells,loadCellsFrom]
  .have hlen:0<rows.length:=List.length_pos_iff.2 he;obtain⟨r0,zP⟩:∃r0,rows[0]? =some r0:=⟨_,List.getElem?_eq_getElem hlen⟩;have hs:sz=n:=(cj 0 r0 zP).symm.trans (hr r0 (List.mem_of_getElem? zP));subst hs;cases ha:a with
   |none=>have:=iT ha;omega
   |some ad=>
    obtain⟨ab,ao,Qe⟩:=ad;have qg:=wM hr;by_cases hz:sz=0
    .subst hz;refine⟨[],by simp,⟨by simp[qg],fun j c e=>by grind⟩,fun w' _=>?_⟩;simp[Builtin.firstCells,loadCells,loadCellsFrom]
    .have jW:Qe=none:=by obtain⟨c,hc⟩:∃c,r0.cells[0]? =some c:=⟨_,List.getElem?_eq_getElem (by grind)⟩;obtain⟨b,o,e1,_⟩:=hF 0 r0 0 c zP hc;rw[ha]at e1;cases e1;rfl
     subst jW;have Fp:∀q,q<rows.length*sz->∃c,(flat rows)[q]? =some c/\w.cell? ⟨ab,ao+q,none⟩=some (vals (q/sz) (q%sz))/\VR G c (vals (q/sz) (q%sz)):=fun q hq=>by
      have hk:q/sz<rows.length:=Nat.div_lt_of_lt_mul (by rw[Nat.mul_comm];exact hq);have hj:q%sz<sz:=Nat.mod_lt _ (by omega);obtain⟨r,qh⟩:∃r,rows[q/sz]? =some r:=⟨_,List.getElem?_eq_getElem hk⟩;obtain⟨c,hc⟩:∃c,r.cells[q%sz]? =some c:=⟨_,List.getElem?_eq_getElem (by grind)⟩;have zQ:q/sz*sz+q%sz=q:=by rw[Nat.mul_comm];exact Nat.div_add_mod q sz
      obtain⟨b,o,e1,e2⟩:=hF _ r _ c qh hc;rw[ha]at e1;cases e1;refine⟨c,?_,?_,hv _ r _ c qh hc⟩
      .have:=Fo hr _ r _ qh hj;rw[zQ]at this;rw[this];exact hc
      .rw[show ao+q=ao+q/sz*sz+q%sz from by omega];exact hI.fix _ _ _ e2
     refine⟨(List.range (rows.length*sz)).map fun q=>vals (q/sz) (q%sz),by simp,b9.rn (by simp[qg]) fun j c v e e'=>?_,fun w' Fq=>?_⟩
     .grind
     .have n9:=run_loadCells (P:=P) w' ⟨ab,ao,none⟩ (rows.length*sz) (fun q=>vals (q/sz) (q%sz)) (fun q hq=>by obtain⟨_,_,h2,_⟩:=Fp q hq;rw[Addr.add_lit,BC (w:=w) (by rw[Fq])];exact h2)
      simpa [Builtin.firstCells]using n9
theorem VR.V_{rows own b o len cap n}(hv:VR G (.sl rows own) (.slice (some ⟨b,o,none⟩) len cap))(hr:∀r∈rows,r.cells.length=n){q}(hq:q<rows.length*n):
  ∃c v,(aS.flat rows)[q]? =some c/\G.F b (o+q)=some v/\VR G c v:=by
 cases hv with
 |sl vals jc iT cj hF hv cP=>
  have hn:n≠0:=fun e=>by subst e;omega
  have hk:q/n<rows.length:=Nat.div_lt_of_lt_mul (by rw[Nat.mul_comm];exact hq);have hj:q%n<n:=Nat.mod_lt _ (by omega);obtain⟨r,qh⟩:∃r,rows[q/n]? =some r:=⟨_,List.getElem?_eq_getElem hk⟩;obtain⟨c,hc⟩:∃c,r.cells[q%n]? =some c:=⟨_,List.getElem?_eq_getElem (by grind)⟩;have zQ:q/n*n+q%n=q:=by rw[Nat.mul_comm];exact Nat.div_add_mod q n
  have hs:=(cj _ r qh).symm.trans (hr r (List.mem_of_getElem? qh));subst hs;obtain⟨b',o',e1,e2⟩:=hF _ r _ c qh hc;cases e1;refine⟨c,_,?_,?_,hv _ r _ c qh hc⟩
  .have:=Fo hr _ r _ qh hj;rw[zQ]at this;rw[this];exact hc
  grind
theorem VR.HX{rows own b o cap n}{vals:Nat->Value}(hr:∀r∈rows,r.cells.length=n)(jc:rows.length<=cap)
  (hF:∀q,q<rows.length*n->G.F b (o+q)=some (vals q))(hv:∀q c,(flat rows)[q]? =some c->VR G c (vals q))(cP:Ff G rows (some ⟨b,o,none⟩) cap n own):
  VR G (.sl rows own) (.slice (some ⟨b,o,none⟩) rows.length cap):=by
 have dN:∀(k:Nat) (r:AV) (j:Nat) (c:AV),rows[k]? =some r->r.cells[j]? =some c->k<rows.length/\j<n:=fun k r j c e e'=>by grind
 refine .sl (sz:=n) (fun k j=>vals (k*n+j)) jc (fun e=>by cases e) (fun k r e=>hr r (List.mem_of_getElem? e)) (fun k r j c e e'=>⟨b,o,rfl,?_⟩) (fun k r j c e e'=>?_) cP
 .obtain⟨h1,h2⟩:=dN k r j c e e';rw[Nat.add_assoc];exact hF _ (agH h1 h2)
 .obtain⟨h1,h2⟩:=dN k r j c e e';exact hv _ c (by rw[Fo hr k r j e h2];exact e')
def vF(P:Program)(t:TypeId)(len:Nat)(parts:List (Nat×AV))(K:AV->Prop):Prop:=
 match P.underlying t with
 |some (.slice e)=>(match dA P e,jy P e with
  |some n,some z=>n≠0/\z.cells.size=n/\len*n<=16777216/\parts.map (·.1)=List.range len/\(∀p∈parts,p.2.cells.length=n/\(p.2.one=true\/∃cs,p.2= .agg cs))/\K (.sl (parts.map (·.2)) .full)
  |_,_=>False)
 |_=>False
theorem Wa{n}:∀(parts) (i0) (cells),(∀k p,parts[k]? =some p->p.1=i0+k)->(∀p∈parts,p.2.cells.length=n/\(p.2.one=true\/∃cs,p.2= .agg cs))->
  (i0+parts.length)*n<=cells.length->∀{k},
  (∀out,out.length=cells.length->(∀q,q<i0*n->out[q]? =cells[q]?)->(∀j p,parts[j]? =some p->∀q,q<n->out[(i0+j)*n+q]? =p.2.cells[q]?)->k out)->sv (fun i=>some (i*n,n)) cells parts k:=by
 intro parts;induction parts with
 |nil=>intro i0 cells _ _ _ k hk;exact hk cells rfl (fun _ _=>rfl) (fun j p e=>by simp at e)
 |cons p r ih=>
  intro i0 cells hp hc hl k hk;obtain⟨i,x⟩:=p;have hi:i=i0:=by have:=hp 0 _ rfl;simpa using this
  subst hi;obtain⟨yw,LY⟩:=hc _ (List.mem_cons_self ..);simp only at yw LY;have hle:(i+(r.length+1))*n=i*n+n+r.length*n:=by rw[Nat.add_mul,Nat.add_mul,Nat.one_mul];omega
  have ss:i*n+n<=cells.length:=by simp only[List.length_cons]at hl;rw[hle]at hl;omega
  refine⟨yw,LY,ss,ih (i+1) _ (fun k p e=>by have:=hp (k+1) p (by simpa using e);omega) (fun p hm=>hc p (List.mem_cons_of_mem _ hm)) ?_ ?_⟩
  .rw[Qa _ _ _ (by omega)];simp only[List.length_cons]at hl;grind
  .intro out h1 h2 h3;have jW:=V5 cells (i*n) x.cells (by omega);refine hk out (by rw[h1,Qa _ _ _ (by omega)]) (fun q hq=>?_) (fun j p e q hq=>?_)
   .grind
   .cases j with
    |zero=>
     simp at e;subst e;rw[Nat.add_zero,h2 _ (by rw[Nat.add_mul,Nat.one_mul];omega),jW,if_pos ⟨by omega,by omega⟩,Nat.add_sub_cancel_left]
    |succ j=>
     grind
theorem agI(hI:Inv Γ G h w){t:TypeId}{len:Nat}{parts:Array (Nat×Operand)}{a:Act}(ht:TR N G σ a.tmps){K:AV->AH->Prop}(H:vF P t len (jV Γ σ parts) fun v=>K v h):
  iw P Γ G w (Instr.buildSlice t len (parts.map fun(i,x)=>(i,a.eval x))) K:=by
 have hlen:(jV Γ σ parts).length=(parts.map fun(i,x)=>(i,a.eval x)).toList.length:=by simp[jV]
 have BF:∀(j:Nat) (p:Nat×AV) (q:Nat×Value),(jV Γ σ parts)[j]? =some p->(parts.map fun(i,x)=>(i,a.eval x)).toList[j]? =some q->p.1=q.1/\VR G p.2 q.2:=fun j p q e1 e2=>by simp only[jV,List.getElem?_map,Option.map_eq_some_iff,Array.toList_map]at e1 e2;obtain⟨⟨i,x⟩,h1,rfl⟩:=e1;obtain⟨⟨i',x'⟩,h2,rfl⟩:=e2;rw[h1]at h2;cases h2;exact⟨rfl,oH hI ht x⟩
 unfold vF at H;split at H
 .rename_i e hd;split at H
  .rename_i n z hn hz;obtain⟨h0,hzs,agK,H5,nB,hk⟩:=H;generalize sw:jV Γ σ parts=ps at hlen BF H5 nB hk;have ko:ps.length=len:=by have:=congrArg List.length H5;simpa using this
   have hp:∀k p,ps[k]? =some p->p.1=0+k:=fun k p e=>by
    have:(ps.map (·.1))[k]? =some p.1:=by rw[List.getElem?_map,e];rfl
    grind
   obtain⟨out,mL,f1,f2,f3⟩:=LV (G:=G) ps (parts.map fun(i,x)=>(i,a.eval x)).toList (((Array.range (len*n)).map (z.cells[·%z.cells.size]!)).toList.map fun _=>AV.top)
    ((Array.range (len*n)).map (z.cells[·%z.cells.size]!)) ⟨by simp,fun j c e=>by simp only[List.getElem?_map,Option.map_eq_some_iff]at e;obtain⟨_,_,rfl⟩:=e;exact .top _⟩ hlen BF
    (Wa ps 0 _ hp nB (by simp[ko]) (k:=fun out=>out.length=len*n/\∀j p,ps[j]? =some p->∀q,q<n->out[j*n+q]? =p.2.cells[q]?) (fun out h1 _ h3=>⟨by simpa using h1,fun j p e q hq=>by grind⟩))
   have hle:=hI.LQ mL;have eA:=hI.P7 mL e;refine⟨.slice (some ⟨w.heap.size,0,none⟩) len len,w.alloc (.cells mL e),_,_,h,?_,hle,eA,?_,hk⟩
   .have wN:Instr.fill (fun i=>some (i*n,n)) ((Array.range (len*n)).map (z.cells[·%z.cells.size]!)) (parts.map fun(i,x)=>(i,a.eval x)).toList=some mL:=f1;simp only[Instr.buildSlice,Sem.run_bind,run_underlying hd,Result.andThen_ok,o8 hn];rw[if_neg (by omega)];by_cases pM:len*n=0
    .have hl:len=0:=by rcases Nat.mul_eq_zero.1 pM with h|h<;>omega
     subst hl;simp only[Nat.zero_mul,if_true,Sem.run_pure,Result.andThen_ok,Sem.run_bind]at wN|-;have:((Array.range 0).map fun x=>(#[]:Array Value)[x%(#[]:Array Value).size]!)=((Array.range 0).map (z.cells[·%z.cells.size]!)):=by simp
     rw[this,wN];simp[newRow]
    .rw[if_neg pM];simp only[Sem.run_bind,Sem.run_pure,vB hz,Result.andThen_ok,wN];simp[newRow]
   .have Ft:(ps.map (·.2)).length=len:=by simp[ko]
    have Qb:mL.size=len*n:=by rw[<-f2.1];exact f3.1
    have key:=VR.HX (G:=G.fixed w.heap.size mL) (rows:=ps.map (·.2)) (own:= .full) (b:=w.heap.size) (o:=0) (cap:=len) (n:=n) (vals:=fun q=>mL.getD q undef)
     (fun r hr=>by grind) (by omega)
     (fun q hq=>by rw[Ft]at hq;simp only[Gh.fixed,if_true,Nat.zero_add];rw[Array.getElem?_eq_getElem (by omega)];simp[Array.getD_eq_getD_getElem?,Array.getElem?_eq_getElem (show q<mL.size by omega)])
     (fun q c e=>by
      have hq:=(List.getElem?_eq_some_iff.1 e).1;have ik:∀r∈ps.map (·.2),r.cells.length=n:=fun r hr=>by grind
      rw[wM ik,Ft]at hq;have ng:q/n<len:=Nat.div_lt_of_lt_mul (by rw[Nat.mul_comm];exact hq);have hj:q%n<n:=Nat.mod_lt _ (by omega);have zQ:q/n*n+q%n=q:=by rw[Nat.mul_comm];exact Nat.div_add_mod q n
      obtain⟨p,H6⟩:∃p,ps[q/n]? =some p:=⟨_,List.getElem?_eq_getElem (by omega)⟩;have vG:(ps.map (·.2))[q/n]? =some p.2:=by rw[List.getElem?_map,H6];rfl
      have h1:=Fo ik _ _ _ vG hj;rw[zQ,e]at h1;have h2:=f3.2 _ p H6 _ hj;rw[zQ,<-h1]at h2;exact(f2.2 q c h2).mono hle) (by show len=_;omega)
    rw[Ft]at key;exact key
  .exact H.elim
 .exact H.elim
end
section
variable {P:Program} {Γ:GG} {G:Gh} {h:AH} {w:World} {N:Nat} {σ:Tm}
def qi(x:AV)(h:AH)(xs:List AV):Prop:=
 match x with
 | .sl rows _=>xs=rows
 | .ms i off len _ sz=>∃cs T,h[i]? =some (.row cs T)/\sz=1/\off+len<=cs.length/\(∀c∈(cs.drop off).take len,c.one=true)/\xs=(cs.drop off).take len
 |_=>False
def LZ(P:Program)(t:TypeId)(s x:AV)(h:AH)(K:AV->AH->Prop):Prop:=
 ∃(e:TypeId) (by_:Nat) (rows:List AV) (m:Int),P.underlying t=some (.slice e)/\dA P e=some 1/\tt P e=some by_/\jy P e=some (.int .i64 0)/\s= .sl rows .full/\x= .int .i64 m/\db 1 rows/\0<=m/\
  (rows.length+m.toNat)*by_<=140737488355328/\rows.length+m.toNat<=140737488355328/\K (.sl (rows++List.replicate m.toNat (.int .i64 0)) .free) h
def nC(P:Program)(t u:TypeId)(s x:AV)(h:AH)(K:AV->AH->Prop):Prop:=
 match P.underlying t,P.underlying u with
 |some _,some (.int _)=>LZ P t s x h K
 |some (.slice e),some _=>(match dA P e,tt P e,jy P e,s with
  |some n,some by_,some z,.sl rows own=>n≠0/\z.cells.size=n/\∃xs,qi x h xs/\db n rows/\db n xs/\rows.length+xs.length<=9223372036854775807/\(rows.length+xs.length)*by_<=140737488355328/\
    (match own with
     | .free=>xs=[]/\K s h
     | .full=>K (.sl (rows++xs) (.bN h.length)) (h++[.bN (rows.length+xs.length)])
     | .bN i=>(match h[i]? with
      |some (.bN m)=>m=rows.length/\K (.sl (rows++xs) (.bN i)) (h.set i (.bN (rows.length+xs.length)))
      |_=>False))
  |_,_,_,_=>False)
 |_,_=>False
def Gh.jr(G:Gh)(i:Nat)(r:Ar):Gh:={G with ar:=fun j=>if j=i then some r else G.ar j}
def Gh.ur(G:Gh)(b:Nat)(vals:Array Value)(lim:Nat):Gh:={G with F:=fun c o=>if c=b then(if o<lim then vals[o]? else none)else G.F c o}
theorem Inv.Wc(hI:Inv Γ G h w)(r):G.le (G.jr h.length r):=
 ⟨rfl,fun _ _ e=>e,fun _ _ _ e=>e,fun i r' e=>⟨r',by have:=hI.jv i r' e;simp only[Gh.jr];rw[if_neg (by omega)];exact e,Nat.le_refl _,fun _=>rfl⟩,fun _ _ e=>e,fun _ e=>e,fun b _ e _=>⟨b,e⟩⟩
theorem Inv.agL(hI:Inv Γ G h w)(n):Inv Γ (G.jr h.length ⟨n,none⟩) (h++[.bN n]) w:=by
 have hle:=hI.Wc ⟨n,none⟩;have dU:∀i r,(G.jr h.length ⟨n,none⟩).ar i=some r->(i=h.length/\r=⟨n,none⟩)\/(i≠h.length/\G.ar i=some r):=fun i r e=>by simp only[Gh.jr]at e;grind
 exact {
  below:=hI.below
  k_:=hI.k_
  kJ:=hI.kJ
  fix:=hI.fix
  obj:=fun i ob e=>by
   rw[List.getElem?_append]at e;split at e
   .rename_i hi;exact(hI.obj i ob e).mono hle (fun _ _=>rfl) (fun r hr=>by simp only[Gh.jr];rw[if_neg (by omega)];exact hr) (fun h=>⟨h.1,by simp only[Gh.jr];rw[if_neg (by omega)];exact h.2⟩)
   .rename_i hi;have:i=h.length:=by have:=(List.getElem?_eq_some_iff.1 e).1;simp at this;omega
    subst this;simp at e;subst e;exact⟨⟨n,none⟩,by simp[Gh.jr],rfl⟩
  ij:=fun i b e=>by have:=hI.ij i b e;simp;omega
  jv:=fun i r e=>by
   rcases dU i r e with⟨h1,_⟩|⟨_,h2⟩
   .simp[h1]
   .have:=hI.jv i r h2;simp;omega
  inj:=hI.inj
  base:=hI.base
  sep:=fun i b o v hf e e'=>hI.sep i b o v (fun o7=>hf (by grind)) e e'
  jw:=fun i r b c sz T e e'=>by
   rcases dU i r e with⟨_,h2⟩|⟨_,h2⟩
   .subst h2;cases e'
   .exact(hI.jw i r b c sz T h2 e').mono (G':=G.jr h.length ⟨n,none⟩) rfl rfl (fun _ _ h=>h) (fun _ h=>h)
  kb:=fun i j r r' b c sz T c' rp T' e1 e2 e3 e4=>by
   rcases dU i r e1 with⟨_,h2⟩|⟨_,h2⟩
   .subst h2;cases e3
   .rcases dU j r' e2 with⟨_,k2⟩|⟨_,k2⟩
    .subst k2;cases e4
    .exact hI.kb i j r r' b c sz T c' rp T' h2 k2 e3 e4
  lp:=hI.lp
  jx:=hI.jx
  gu:=hI.gu
  kn:=fun g cs e=>(hI.kn g cs e).mono hle}
theorem Inv.agM(hI:Inv Γ G h w){i r}(hi:G.ar i=some r){m c sz T vals}(hm:r.n<m)(cj:vals.size=c*sz)(Qf:m<=c)(uo:h[i]? ≠some .frozen):
  G.le ((G.jr i ⟨m,some (w.heap.size,c,sz,T)⟩).ur w.heap.size vals (m*sz))/\
  Inv Γ ((G.jr i ⟨m,some (w.heap.size,c,sz,T)⟩).ur w.heap.size vals (m*sz)) (h.set i (.bN m)) (w.alloc (.cells vals T)):=by
 generalize jd:(G.jr i ⟨m,some (w.heap.size,c,sz,T)⟩).ur w.heap.size vals (m*sz)=G';have hle:G.le G':=by
  subst jd;refine⟨rfl,fun _ _ e=>e,fun b o v e=>?_,fun j r' e=>?_,fun _ _ e=>e,fun _ e=>e,fun b _ e _=>⟨b,e⟩⟩
  .have:=hI.C_ e;simp only[Gh.ur,Gh.jr];rw[if_neg (by omega)];exact e
  .by_cases hj:j=i
   .subst hj;rw[hi]at e;cases e;exact⟨⟨m,some (w.heap.size,c,sz,T)⟩,by simp[Gh.ur,Gh.jr],by simp only;omega,fun e=>by simp only at e;omega⟩
   .exact⟨r',by simp only[Gh.ur,Gh.jr];rw[if_neg hj];exact e,Nat.le_refl _,fun _=>rfl⟩
 refine⟨hle,?_⟩;have eA:=hI.Db (.cells vals T);have lb:(w.alloc (.cells vals T)).heap[w.heap.size]? =some (.cells vals T (0,0)):=heap_alloc_new w _;have hF:∀b o v,G'.F b o=some v->(b=w.heap.size/\o<m*sz/\vals[o]? =some v)\/(b≠w.heap.size/\G.F b o=some v):=fun b o v e=>by subst jd;simp only[Gh.ur,Gh.jr]at e;grind
 have dI:∀j,G'.ρ j=G.ρ j:=fun j=>by subst jd;rfl
 have dU:∀j r',G'.ar j=some r'->(j=i/\r'=⟨m,some (w.heap.size,c,sz,T)⟩)\/(j≠i/\G.ar j=some r'):=fun j r' e=>by subst jd;simp only[Gh.ur,Gh.jr]at e;grind
 exact {
  below:=hle.w0▸eA.below
  k_:=hle.w0▸eA.k_
  kJ:=hle.w0▸eA.kJ
  fix:=fun b o v e=>by
   rcases hF b o v e with⟨hb,_,hv⟩|⟨_,hv⟩
   .subst hb;rw[cell_of lb];exact hv
   .exact eA.fix b o v hv
  obj:=fun j ob e=>by
   rw[List.getElem?_set]at e;split at e
   .rename_i nf;subst nf;split at e
    .cases e;subst jd;exact⟨⟨m,some (w.heap.size,c,sz,T)⟩,by simp[Gh.ur,Gh.jr],rfl⟩
    .cases e
   .rename_i nf;refine(eA.obj j ob e).mono hle (fun _ _=>rfl) (fun r' n9=>?_) (fun h=>?_)
    .subst jd;simp only[Gh.ur,Gh.jr];grind
    .subst jd;exact⟨h.1,by simp only[Gh.ur,Gh.jr];grind⟩
  ij:=fun j b e=>by rw[List.length_set];rw[dI]at e;exact hI.ij j b e
  jv:=fun j r' e=>by
   rw[List.length_set];rcases dU j r' e with⟨h1,_⟩|⟨_,h2⟩
   .rw[h1];exact hI.jv i r hi
   .exact hI.jv j r' h2
  inj:=fun j k b e e'=>by rw[dI]at e e';exact hI.inj j k b e e'
  base:=fun j b e=>by rw[dI]at e;rw[hle.w0];exact eA.base j b e
  sep:=fun j b o v hf e e'=>by
   rw[dI]at e;rcases hF b o v e' with⟨hb,_,_⟩|⟨_,hv⟩
   .have:=(hI.base j b e).2;omega
   .refine hI.sep j b o v (fun o7=>?_) e hv;grind
  jw:=fun j r' b c' rp T' e e'=>by
   rcases dU j r' e with⟨_,h2⟩|⟨_,h2⟩
   .subst h2;simp only[Option.some.injEq,Prod.mk.injEq]at e';obtain⟨rfl,rfl,rfl,rfl⟩:=e';refine⟨⟨vals,lb,cj⟩,Qf,by show 0<m;omega,by rw[hle.w0];exact hI.below.size,fun o v e=>?_,fun k ek=>?_⟩
    .grind
    .rw[dI]at ek;have:=(hI.base k _ ek).2;omega
   .refine(eA.jw j r' b c' rp T' h2 e').mono hle.w0 rfl (fun o v hv=>?_) (fun k ek=>by rwa [dI]at ek);rcases hF b o v hv with⟨hb,_,_⟩|⟨_,hv⟩
    .have:=hI.Da h2 e';omega
    .exact hv
  kb:=fun j k r1 r2 b c1 s1 T1 c2 s2 T2 e1 e2 e3 e4=>by
   rcases dU j r1 e1 with⟨h1,h2⟩|⟨h1,h2⟩<;>rcases dU k r2 e2 with⟨k1,k2⟩|⟨k1,k2⟩
   .omega
   .subst h2;simp only[Option.some.injEq,Prod.mk.injEq]at e3;have:=hI.Da k2 e4;omega
   .subst k2;simp only[Option.some.injEq,Prod.mk.injEq]at e4;have:=hI.Da h2 e3;omega
   .exact hI.kb j k r1 r2 b c1 s1 T1 c2 s2 T2 h2 k2 e3 e4
  lp:=fun b D e=>eA.lp b D (by subst jd;exact e)|>.imp fun l hl=>⟨hl.1,hl.2.1,by subst jd;exact hl.2.2⟩
  jx:=fun b D e=>by rw[hle.w0];exact hI.jx b D (by subst jd;exact e)
  gu:=fun D e=>by rw[hle.w0];exact eA.gu D (by subst jd;exact e)
  kn:=fun g cs e=>(eA.kn g cs e).mono hle}
def Gh.uu(G:Gh)(b lo hi:Nat)(vals:Array Value):Gh:={G with F:=fun c o=>if c=b/\lo<=o/\o<hi then vals[o]? else G.F c o}
theorem Inv.agN(hI:Inv Γ G h w){i r}(hi:G.ar i=some r){b c sz m T}(hr:r.sn=some (b,c,sz,T)){cur vals}(zR:w.heap[b]? =some (.cells cur T (0,0)))
  (cj:vals.size=cur.size)(hold:∀o,o<r.n*sz->vals[o]? =cur[o]?)(hm:r.n<m)(Qf:m<=c)(uo:h[i]? ≠some .frozen):
  G.le ((G.jr i ⟨m,some (b,c,sz,T)⟩).uu b (r.n*sz) (m*sz) vals)/\
  Inv Γ ((G.jr i ⟨m,some (b,c,sz,T)⟩).uu b (r.n*sz) (m*sz) vals) (h.set i (.bN m)) (w.setRow b vals):=by
 have vH:=hI.jw i r b c sz T hi hr;generalize jd:(G.jr i ⟨m,some (b,c,sz,T)⟩).uu b (r.n*sz) (m*sz) vals=G';have hle:G.le G':=by
  subst jd;refine⟨rfl,fun _ _ e=>e,fun b' o v e=>?_,fun j r' e=>?_,fun _ _ e=>e,fun _ e=>e,fun b _ e _=>⟨b,e⟩⟩
  .simp only[Gh.uu,Gh.jr];rw[if_neg (fun⟨e1,e2,_⟩=>by subst e1;have:=vH.LP o v e;omega)];exact e
  .by_cases hj:j=i
   .subst hj;rw[hi]at e;cases e;exact⟨⟨m,some (b,c,sz,T)⟩,by simp[Gh.uu,Gh.jr],by simp only;omega,fun e=>by simp only at e;omega⟩
   .exact⟨r',by simp only[Gh.uu,Gh.jr];rw[if_neg hj];exact e,Nat.le_refl _,fun _=>rfl⟩
 refine⟨hle,?_⟩;have lb:=setRow_heap w b cur vals T (0,0) zR;have wO:∀k,k≠b->(w.setRow b vals).heap[k]? =w.heap[k]? :=fun k hk=>Qc w b k vals hk;have hF:∀b' o v,G'.F b' o=some v->(b'=b/\r.n*sz<=o/\o<m*sz/\vals[o]? =some v)\/G.F b' o=some v:=fun b' o v e=>by subst jd;simp only[Gh.uu,Gh.jr]at e;grind
 have dI:∀j,G'.ρ j=G.ρ j:=fun j=>by subst jd;rfl
 have dU:∀j r',G'.ar j=some r'->(j=i/\r'=⟨m,some (b,c,sz,T)⟩)\/(j≠i/\G.ar j=some r'):=fun j r' e=>by subst jd;simp only[Gh.uu,Gh.jr]at e;grind
 have tu:∀x,w.heap[b]? ≠some (.loop x):=fun x e=>by rw[zR]at e;cases e
 have iF:∀x,w.heap[b]? ≠some (.deferred x):=fun x e=>by rw[zR]at e;cases e
 exact {
  k_:=hle.w0▸hI.k_
  kJ:=hle.w0▸hI.kJ
  below:=hle.w0▸hI.below.trans ⟨rfl,rfl,rfl,by simp[World.setRow],fun k hk=>wO k (fun e=>by have:=vH.base;omega)⟩
  fix:=fun b' o v e=>by
   rcases hF b' o v e with⟨hb,_,_,hv⟩|hv
   .subst hb;rw[cell_of lb];exact hv
   .by_cases hb:b'=b
    .subst hb;have h1:=hI.fix _ o v hv;rw[cell_of zR]at h1;rw[cell_of lb,hold o (vH.LP o v hv)];exact h1
    .exact(BC (wO b' hb)).trans (hI.fix b' o v hv)
  obj:=fun j ob e=>by
   rw[List.getElem?_set]at e;split at e
   .rename_i nf;subst nf;split at e
    .cases e;subst jd;exact⟨⟨m,some (b,c,sz,T)⟩,by simp[Gh.uu,Gh.jr],rfl⟩
    .cases e
   .rename_i nf;refine(hI.obj j ob e).mono hle (fun b' e'=>wO b' (fun o7=>vH.ρ j (o7▸e'))) (fun r' n9=>?_) (fun h=>?_)
    .subst jd;simp only[Gh.uu,Gh.jr];grind
    .subst jd;exact⟨h.1,by simp only[Gh.uu,Gh.jr];grind⟩
  ij:=fun j b' e=>by rw[List.length_set];rw[dI]at e;exact hI.ij j b' e
  jv:=fun j r' e=>by
   rw[List.length_set];rcases dU j r' e with⟨h1,_⟩|⟨_,h2⟩
   .rw[h1];exact hI.jv i r hi
   .exact hI.jv j r' h2
  inj:=fun j k b' e e'=>by rw[dI]at e e';exact hI.inj j k b' e e'
  base:=fun j b' e=>by rw[dI]at e;rw[hle.w0];have:=hI.base j b' e;simp_all
  sep:=fun j b' o v hf e e'=>by
   rw[dI]at e;rcases hF b' o v e' with⟨hb,_,_,_⟩|hv
   .subst hb;exact vH.ρ j e
   .refine hI.sep j b' o v (fun o7=>?_) e hv;grind
  jw:=fun j r' b' c' rp T' e e'=>by
   rcases dU j r' e with⟨_,h2⟩|⟨cV,h2⟩
   .subst h2;simp only[Option.some.injEq,Prod.mk.injEq]at e';obtain⟨rfl,rfl,rfl,rfl⟩:=e';refine⟨⟨vals,lb,?_⟩,Qf,by show 0<m;omega,by rw[hle.w0];exact vH.base,fun o v e=>?_,fun k ek=>by rw[dI]at ek;exact vH.ρ k ek⟩
    .obtain⟨cells,k1,k2⟩:=vH.sn;grind
    .rcases hF _ o v e with⟨_,_,ho,_⟩|hv
     .exact ho
     .have h1:=vH.LP o v hv;have h2:r.n*sz<=m*sz:=Nat.mul_le_mul_right _ (by omega);simp only;omega
   .have Qg:b'≠b:=fun o7=>by subst o7;exact cV (hI.kb j i r' r _ c' rp T' c sz T h2 hi e' hr)
    refine(hI.jw j r' b' c' rp T' h2 e').mono hle.w0 (wO b' Qg) (fun o v hv=>?_) (fun k ek=>by rwa [dI]at ek);grind
  kb:=fun j k r1 r2 b' c1 s1 T1 c2 s2 T2 e1 e2 e3 e4=>by
   rcases dU j r1 e1 with⟨h1,h2⟩|⟨h1,h2⟩<;>rcases dU k r2 e2 with⟨k1,k2⟩|⟨k1,k2⟩
   .omega
   .subst h2;simp only[Option.some.injEq,Prod.mk.injEq]at e3;obtain⟨rfl,_,_,_⟩:=e3;exact absurd (hI.kb k i r2 r _ c2 s2 T2 c sz T k2 hi e4 hr) k1
   .subst k2;simp only[Option.some.injEq,Prod.mk.injEq]at e4;obtain⟨rfl,_,_,_⟩:=e4;exact absurd (hI.kb j i r1 r _ c1 s1 T1 c sz T h2 hi e3 hr) h1
   .exact hI.kb j k r1 r2 b' c1 s1 T1 c2 s2 T2 h2 k2 e3 e4
  lp:=fun b' D e=>by obtain⟨l,h1,h2,h3⟩:=hI.lp b' D (by subst jd;exact e);exact⟨l,(wO b' (fun e'=>tu l (e'▸h1))).trans h1,h2,by subst jd;exact h3⟩
  jx:=fun b' D e=>by rw[hle.w0];exact hI.jx b' D (by subst jd;exact e)
  gu:=fun D e=>by rw[hle.w0];have:=hI.gu D (by subst jd;exact e);grind
  kn:=fun g cs e=>(hI.kn g cs e).mono hle}
theorem Qh(hI:Inv Γ G h w){x v}(hv:VR G x v){xs}(hs:qi x h xs){n}(hn:n≠0)(eD:db n xs):
  ∃news:List Value,news.length=xs.length*n/\b9 G (flat xs) news.toArray/\(∀w',(Builtin.lenOf v).run P w'= .ok xs.length w')/\
   ∀w',w'.heap=w.heap->(Builtin.firstCells n xs.length v).run P w'= .ok news.toArray w':=by
 unfold qi at hs;split at hs
 .rename_i rows own;subst hs;have H8:=hv;cases hv with
  |sl vals jc iT cj hF hv cP=>
   obtain⟨olds,h1,h2,h3⟩:=H8.LX (P:=P) hI (fun r hr=>(eD r hr).1);exact⟨olds,h1,h2,fun w'=>rfl,h3⟩
 .rename_i i off len cap sz;obtain⟨cs,T,gw,rfl,ss,wK,rfl⟩:=hs;obtain⟨b,vals,k1,k2,k3⟩:=hI.row gw;cases hv with
  |ms hb=>
   rw[k1]at hb;cases hb;have hl:((cs.drop off).take len).length=len:=by rw[List.length_take,List.length_drop];omega
   rw[hl];by_cases hlen:len=0
   .subst hlen;exact⟨[],by simp,by simpa [flat]using b9.nil G,fun w'=>rfl,fun w' _=>by simp[Builtin.firstCells,loadCells,loadCellsFrom]⟩
   .obtain⟨c0,De⟩:∃c,((cs.drop off).take len)[0]? =some c:=⟨_,List.getElem?_eq_getElem (by omega)⟩;have Fp:∀c,c∈(cs.drop off).take len->c.cells=[c]:=fun c hc=>by have:=wK c hc;cases c<;>first|rfl|(simp[AV.one]at this)
    have L3:n=1:=by have hm:=List.mem_of_getElem? De;have:=(eD c0 hm).1;rw[Fp c0 hm]at this;simpa using this.symm
    subst L3;have Df:flat ((cs.drop off).take len)=(cs.drop off).take len:=by
     have:∀l:List AV,(∀c∈l,c.cells=[c])->flat l=l:=fun l=>by
      induction l with
      |nil=>intro _;rfl
      |cons c l ih=>intro h;rw[LW,h c (by simp),ih (fun x hx=>h x (by simp[hx]))];rfl
     exact this _ Fp
    have hA:=(At.P8 k2 k3).drop off;refine⟨(List.range len).map fun q=>(w.cell? ⟨b,off+q,none⟩).getD undef,by simp,?_,fun w'=>rfl,fun w' Fq=>?_⟩
    .rw[Df];refine b9.rn (by simp;omega) fun j c v e e'=>?_;rw[List.getElem?_take]at e;split at e
     .rename_i hj;obtain⟨u,q1,q2⟩:=hA j c e;grind
     .cases e
    .have n9:=run_loadCells (P:=P) w' ⟨b,off,none⟩ len (fun q=>(w.cell? ⟨b,off+q,none⟩).getD undef) (fun q hq=>by obtain⟨u,q1,q2⟩:=hA q _ (List.getElem?_eq_getElem (show q<(cs.drop off).length by rw[List.length_drop];omega));rw[Nat.zero_add]at q1;rw[Addr.add_lit,BC (w:=w) (by rw[Fq]),q1];rfl)
     simpa [Builtin.firstCells]using n9
 .exact hs.elim
theorem Qi{t u ty e d n by_ z}(ht:P.underlying t=some (.slice e))(hu:P.underlying u=some d)(hd:∀k,d≠ .int k)
  (hn:dA P e=some n)(hb:tt P e=some by_)(hz:jy P e=some z){base sLen sCap m x}{olds news:List Value}
  (hlen:∀w',(Builtin.lenOf x).run P w'= .ok m w')(Qj:(Builtin.firstCells n sLen (.slice base sLen sCap)).run P w.drew= .ok olds.toArray w.drew)(sy:(Builtin.firstCells n m x).run P w.drew= .ok news.toArray w.drew)
  (hg:sCap<sLen+m)(qj:sLen+m<=9223372036854775807)(nD:(sLen+m)*by_<=140737488355328):
  (Builtin.append_ #[t,u] ty #[.slice base sLen sCap,x]).run P w=
   .ok (.slice (some ⟨w.heap.size,0,none⟩) (sLen+m) (grownCap w (sLen+m) sCap e)) (w.drew.alloc (.cells (olds.toArray++news.toArray++Builtin.zeroCells z.cells (grownCap w (sLen+m) sCap e-(sLen+m))) e)):=by
 have H9:¬(sLen+m<=sCap):=by omega
 have ss:=growslice_fits hg nD;obtain⟨i,hi⟩:∃i,P.info? e=some i:=by unfold dA at hn;cases hi:P.info? e with
  |none=>simp[hi]at hn
  |some i=>exact⟨i,rfl⟩
 have Fu:i.size=n:=by simpa [dA,hi]using hn
 have Fv:i.bytes=by_:=by simpa [tt,hi]using hb
 have H_:i.zero=some z:=by simpa [jy,hi]using hz
 subst Fu Fv;have Wd:¬(9223372036854775807<((sLen:Int)+(m:Int))):=by omega
 have Qk:¬(281474976710656<Builtin.nextslicecap (sLen+m) sCap*i.bytes):=by omega
 simp[Builtin.append_,run_underlying ht,run_underlying hu,sizeOf,typeInfo,zeroValue,hi,H_,hlen,H9,Wd,Qk,Question.forced,Qj,sy,newRow,grownCap];congr 2;apply Array.ext';simp
theorem run_append_fits{t u ty e d n}(ht:P.underlying t=some (.slice e))(hu:P.underlying u=some d)(hd:∀k,d≠ .int k)
  (hn:dA P e=some n){base sLen sCap m x news}
  (hlen:∀w',(Builtin.lenOf x).run P w'= .ok m w')(sy:(Builtin.firstCells n m x).run P w= .ok news.toArray w)(hg:sLen+m<=sCap){w'}
  (fC:∀a,base=some a->(storeCells (a.add (sLen*n)) news).run P w= .ok () w')(Ia:base=none->w'=w):
  (Builtin.append_ #[t,u] ty #[.slice base sLen sCap,x]).run P w= .ok (.slice base (sLen+m) sCap) w':=by
 cases base with
 |none=>simp[Builtin.append_,run_underlying ht,run_underlying hu,o8 hn,hlen,hg,sy,Ia rfl]
 |some a=>simp[Builtin.append_,run_underlying ht,run_underlying hu,o8 hn,hlen,hg,sy,fC a rfl]
theorem agO(hI:Inv Γ G h w){t u ty k}(hu:P.underlying u=some (.int k)){s x vs vx}(hs:VR G s vs)(hx:VR G x vx){K}(H:LZ P t s x h K):
  iw P Γ G w (Builtin.append_ #[t,u] ty #[vs,vx]) K:=by
 obtain⟨e,by_,rows,m,ht,hn,hb,hz,rfl,rfl,eD,h0,nD,hle,hk⟩:=H;cases hx;have vI:=hs;cases hs with
 |sl vals jc iT cj hF hv cP=>
  rename_i base cap sz;have hc:cap=rows.length:=cP;subst hc;obtain⟨i,hi⟩:∃i,P.info? e=some i:=by unfold dA at hn;cases hi:P.info? e with
   |none=>simp[hi]at hn
   |some i=>exact⟨i,rfl⟩
  have Fu:i.size=1:=by simpa [dA,hi]using hn
  have Fv:i.bytes=by_:=by simpa [tt,hi]using hb
  have H_:i.zero=some (.int .i64 0):=by simpa [jy,hi]using hz
  have hw:IntKind.i64.wrap m=m:=IntWalk.i64_in m ⟨by omega,by omega⟩;have hmb:¬(281474976710656<m*(i.bytes:Int)):=by
   rw[Fv];have e1:m*(by_:Int)=((m.toNat*by_:Nat):Int):=by grind
   have e2:m.toNat*by_<=(rows.length+m.toNat)*by_:=Nat.mul_le_mul_right _ (by omega);omega
  by_cases hm:m.toNat=0
  .have e0:m=0:=by omega
   subst e0;refine⟨.slice base rows.length rows.length,w,G,_,h,?_,Gh.le.refl G,hI,?_,hk⟩
   .simp[Builtin.append_,run_underlying ht,run_underlying hu,sizeOf,typeInfo,hi,Fu,asInt,asIntOf,hw];cases base<;>simp[storeCells]
   .rw[show List.replicate (0:Int).toNat (AV.int .i64 0)=[]from rfl,List.append_nil];exact .sl vals jc iT cj hF hv trivial
  .have kK:∀r∈rows++List.replicate m.toNat (AV.int .i64 0),r.cells.length=1:=fun r hr=>by
    rcases List.mem_append.1 hr with hr|hr
    .exact(eD r hr).1
    .rw[List.eq_of_mem_replicate hr];rfl
   obtain⟨olds,p1,p2,p3⟩:=vI.LX (P:=P) hI (fun r hr=>(eD r hr).1);rw[Nat.mul_one]at p1;have ss:=growslice_fits (show rows.length<rows.length+m.toNat by omega) nD;have sA:=grownCap_ge w (rows.length+m.toNat) rows.length e;obtain⟨A,hA⟩:∃A,A=olds.toArray++Builtin.zeroCells #[.int .i64 0] m.toNat++Builtin.zeroCells #[.int .i64 0] (grownCap w (rows.length+m.toNat) rows.length e-(rows.length+m.toNat)):=⟨_,rfl⟩;have L4:∀n,Builtin.zeroCells #[.int .i64 0] n=Array.replicate n (.int .i64 0):=fun n=>by apply Array.ext_getElem?;intro q;simp only[Builtin.zeroCells,Array.getElem?_map,Array.getElem?_range,Array.getElem?_replicate];grind
   rw[L4,L4]at hA;have Ql:A.size=grownCap w (rows.length+m.toNat) rows.length e:=by rw[hA];simp[p1];omega
   have hl:(rows++List.replicate m.toNat (AV.int .i64 0)).length=rows.length+m.toNat:=by simp
   have gM:=hI.drew.LQ A;have eA:=hI.drew.P7 A e;refine⟨.slice (some ⟨w.heap.size,0,none⟩) (rows.length+m.toNat) (grownCap w (rows.length+m.toNat) rows.length e),w.drew.alloc (.cells A e),_,_,h,?_,gM,eA,?_,hk⟩
   .have Wd:¬(9223372036854775807<((rows.length:Int)+(m.toNat:Int))):=by omega
    have Qk:¬(281474976710656<Builtin.nextslicecap (rows.length+m.toNat) rows.length*i.bytes):=by rw[Fv];omega
    have H9:¬(rows.length+m.toNat<=rows.length):=by omega
    have Dg:=p3 w.drew rfl;have agQ:¬(m<0):=by omega
    have Ib:¬(m<=0):=by omega
    have agR:¬(9223372036854775807<(rows.length:Int)+max m 0):=by omega
    simp[Builtin.append_,run_underlying ht,run_underlying hu,sizeOf,typeInfo,zeroValue,hi,H_,Fu,asInt,asIntOf,hw,hmb,hm,H9,Qk,Question.forced,Dg,newRow,grownCap,hA,agQ,agR];rw[show(Value.int .i64 0).cells= #[.int .i64 0]from rfl,L4,L4,Array.replicate_append_replicate];try rfl
   .have key:=VR.HX (G:=G.fixed w.drew.heap.size A) (rows:=rows++List.replicate m.toNat (.int .i64 0)) (own:= .free) (b:=w.drew.heap.size) (o:=0) (cap:=grownCap w (rows.length+m.toNat) rows.length e) (n:=1) (vals:=fun q=>A.getD q undef) kK (by rw[hl];exact sA)
     (fun q hq=>by rw[hl]at hq;simp only[Gh.fixed,if_true,Nat.zero_add];rw[Array.getElem?_eq_getElem (by omega)];simp[Array.getD_eq_getD_getElem?,Array.getElem?_eq_getElem (show q<A.size by omega)])
     (fun q c ec=>by
      rw[V9]at ec;have Dh:flat (List.replicate m.toNat (AV.int .i64 0))=List.replicate m.toNat (AV.int .i64 0):=by
       have:∀n,flat (List.replicate n (AV.int .i64 0))=List.replicate n (AV.int .i64 0):=fun n=>by
        induction n with
        |zero=>rfl
        |succ n ih=>rw[List.replicate_succ,LW,ih];rfl
       exact this _
      rw[Dh]at ec;have rA:b9 (G.fixed w.drew.heap.size A) (List.replicate m.toNat (AV.int .i64 0)) (Array.replicate m.toNat (.int .i64 0)):=b9.rn (by simp) fun j c v e1 e2=>by
       rw[List.getElem?_replicate]at e1;rw[Array.getElem?_replicate]at e2;by_cases hj:j<m.toNat
       .rw[if_pos hj]at e1 e2;cases e1;cases e2;exact .int _ _
       .rw[if_neg hj]at e1;cases e1
      obtain⟨v,k1,k2⟩:=((p2.mono gM).append rA).get ec;have:A[q]? =some v:=by rw[hA,Array.getElem?_append_left (Array.getElem?_eq_some_iff.1 k1).1];exact k1
      simp_all) trivial
    rw[hl]at key;exact key
theorem agS(hI:Inv Γ G h w){t u ty s x vs vx}(hs:VR G s vs)(hx:VR G x vx){K}(H:nC P t u s x h K):
  iw P Γ G w (Builtin.append_ #[t,u] ty #[vs,vx]) K:=by
 unfold nC at H;split at H
 .rename_i hu;exact agO hI hu hs hx H
 .rename_i e d hd ht hu;split at H
  .rename_i n by_ z rows own hn hb hz;obtain⟨h0,BG,xs,tv,eD,zT,qj,nD,H⟩:=H;have key:∀(G:Gh) (h:AH) (i:Nat) (vs vx:Value),Inv Γ G h w->VR G (.sl rows (.bN i)) vs->VR G x vx->qi x h xs->h[i]? =some (.bN rows.length)->
     K (.sl (rows++xs) (.bN i)) (h.set i (.bN (rows.length+xs.length)))->iw P Γ G w (Builtin.append_ #[t,u] ty #[vs,vx]) K:=by
    intro G h i vs vx hI hs hx tv Qm hk;obtain⟨news,q1,q2,q3,q4⟩:=Qh (P:=P) hI hx tv h0 zT;have vI:=hs;have BH:∀r∈rows,r.cells.length=n:=fun r hr=>(eD r hr).1;have kK:∀r∈rows++xs,r.cells.length=n:=fun r hr=>(eD.append zT r hr).1;obtain⟨r,dU,Ic⟩:BB G w i (.bN rows.length):=hI.obj i _ Qm;cases hs with
    |sl vals jc iT cj hF hv cP=>
     rename_i base cap sz;obtain⟨olds,p1,p2,p3⟩:=vI.LX (P:=P) hI BH;obtain⟨r',We,_,hblk⟩:=cP;rw[dU]at We;cases We;have hblk:=hblk Ic.symm;by_cases hm:xs.length=0
     .have Di:xs=[]:=List.eq_nil_of_length_eq_zero hm;subst Di;have Ie:news=[]:=List.eq_nil_of_length_eq_zero (by simpa using q1);subst Ie;have hr:=run_append_fits (P:=P) (w:=w) (ty:=ty) ht hu (fun k e=>hd k e) hn (base:=base) (sLen:=rows.length) (sCap:=cap) (m:=0) (x:=vx) (news:=[]) q3 (q4 w rfl) (by omega) (w':=w) (fun a _=>by simp[storeCells]) (fun _=>rfl);have pN:h.set i (.bN (rows.length+0))=h:=by
       apply List.ext_getElem?;intro j;rw[List.getElem?_set];split
       .rename_i nf;subst nf;grind
       .rfl
      simp only[List.length_nil,pN,List.append_nil]at hk;exact⟨_,w,G,_,h,hr,Gh.le.refl G,hI,vI,hk⟩
     .have hlen:(rows++xs).length=rows.length+xs.length:=by simp
      have Df:flat (rows++xs)=flat rows++flat xs:=V9 _ _;by_cases hg:cap<rows.length+xs.length
      .have hr:=Qi (P:=P) (w:=w) (ty:=ty) ht hu (fun k e=>hd k e) hn hb hz (base:=base) (sLen:=rows.length) (sCap:=cap) (m:=xs.length) (x:=vx) q3 (p3 w.drew rfl) (q4 w.drew rfl) hg qj nD;have sA:=grownCap_ge w (rows.length+xs.length) cap e;generalize grownCap w (rows.length+xs.length) cap e=nc at hr sA;generalize hA:olds.toArray++news.toArray++Builtin.zeroCells z.cells (nc-(rows.length+xs.length))=A at hr;have lB:olds.length+news.length=(rows.length+xs.length)*n:=by rw[p1,q1,Nat.add_mul]
       have Ql:A.size=nc*n:=by rw[<-hA];simp only[Array.size_append,List.size_toArray,size_zeroCells,BG];rw[lB,<-Nat.add_mul];congr 1;omega
       have hAg:∀q,q<(rows.length+xs.length)*n->A[q]? =(olds.toArray++news.toArray)[q]? :=fun q hq=>by rw[<-hA,Array.getElem?_append_left (by simp only[Array.size_append,List.size_toArray];omega)]
       obtain⟨hle,eA⟩:=hI.drew.agM dU (m:=rows.length+xs.length) (c:=nc) (sz:=n) (T:=e) (vals:=A) (by omega) Ql sA (by rw[Qm];simp);rw[World.size_drew]at hle eA;refine⟨_,_,_,_,_,hr,hle,eA,?_,hk⟩;rw[<-hlen];refine VR.HX (n:=n) (vals:=fun q=>A.getD q undef) kK (by omega) (fun q hq=>?_) (fun q c ec=>?_) ?_
       .rw[hlen]at hq;have Wf:q<A.size:=by rw[Ql];exact Nat.lt_of_lt_of_le hq (Nat.mul_le_mul_right _ sA)
        simp only[Gh.ur,Nat.zero_add,hlen,if_true];rw[if_pos hq,Array.getElem?_eq_getElem Wf];simp[Array.getD_eq_getD_getElem?,Array.getElem?_eq_getElem Wf]
       .rw[Df]at ec;obtain⟨v,k1,k2⟩:=(p2.append q2).get ec;have hq:q<(rows.length+xs.length)*n:=by have:=(Array.getElem?_eq_some_iff.1 k1).1;simp only[Array.size_append,List.size_toArray]at this;omega
        simp only[Array.getD_eq_getD_getElem?,hAg q hq,k1,Option.getD_some];exact k2.mono (by rw[hlen];exact hle)
       .refine⟨⟨rows.length+xs.length,some (w.heap.size,nc,n,e)⟩,by simp[Gh.ur,Gh.jr],by simp,fun _=>⟨rfl,rfl,fun _=>rfl⟩⟩
      .cases BI:r.sn with
       |none=>rw[BI]at hblk;simp only at hblk;omega
       |some bb=>
        obtain⟨b,c,s,T⟩:=bb;rw[BI]at hblk;simp only at hblk;obtain⟨rfl,rfl,hss⟩:=hblk;have vH:=hI.jw i r b _ s T dU BI;have Ib:rows≠[]:=fun e=>by have:=vH.pos;rw[Ic,e]at this;simp at this
        obtain⟨r0,zP⟩:∃r0,rows[0]? =some r0:=⟨_,List.getElem?_eq_getElem (List.length_pos_iff.2 Ib)⟩;have hsn:s=n:=by rw[<-hss Ib,<-cj 0 r0 zP];exact BH r0 (List.mem_of_getElem? zP)
        subst hsn;obtain⟨cur,zR,nB⟩:=vH.sn;have Ia:∀v∈news,v.oneCell'=true:=by
         have:=q2.P_ (fun c hc=>by simp only[flat,List.mem_flatMap]at hc;obtain⟨r,hr,hc⟩:=hc;exact(zT r hr).2 c hc)
         simpa using this
        have ss:rows.length*s+news.length<=cur.size:=by rw[q1,nB,<-Nat.add_mul];exact Nat.mul_le_mul_right _ (by omega)
        have fC:=run_storeCells_at P b (rows.length*s) T news 0 cur w zR (by simpa using ss) Ia;simp only[Nat.add_zero]at fC;generalize hV:(cur.toList.take (rows.length*s)++news++cur.toList.drop (rows.length*s+news.length)).toArray=V at fC;have hr:=run_append_fits (P:=P) (w:=w) (ty:=ty) ht hu (fun k e=>hd k e) hn (base:=some ⟨b,0,none⟩) (sLen:=rows.length) (sCap:=cap) (m:=xs.length) (x:=vx) q3 (q4 w rfl) (by omega) (w':=w.setRow b V)
         (fun a ea=>by cases ea;rw[Addr.add_lit,Nat.zero_add];exact fC) (fun e=>by cases e)
        have oJ:(cur.toList.take (rows.length*s)).length=rows.length*s:=by have:cur.toList.length=cur.size:=Array.length_toList;rw[List.length_take];omega
        have Qn:V.size=cur.size:=by rw[<-hV];simp only[List.size_toArray,List.length_append,oJ,List.length_drop,Array.length_toList];omega
        have Qo:∀o,o<rows.length*s->V[o]? =cur[o]? :=fun o ho=>by rw[<-hV,List.getElem?_toArray,List.append_assoc,List.getElem?_append_left (by rw[oJ];exact ho),List.getElem?_take,if_pos ho,Array.getElem?_toList]
        have agX:∀o,rows.length*s<=o->o<(rows.length+xs.length)*s->V[o]? =news[o-rows.length*s]? :=fun o ho iG=>by rw[Nat.add_mul,<-q1]at iG;rw[<-hV,List.getElem?_toArray,List.getElem?_append_left (by simp only[List.length_append,oJ];omega),List.getElem?_append_right (by omega),oJ]
        obtain⟨hle,eA⟩:=hI.agN dU BI (m:=rows.length+xs.length) zR Qn (fun o ho=>Qo o (by rwa [Ic]at ho)) (by omega) (by omega) (by rw[Qm];simp);refine⟨_,_,_,_,_,hr,hle,eA,?_,hk⟩;rw[<-hlen];refine VR.HX (n:=s) (vals:=fun q=>V.getD q undef) kK (by omega) (fun q hq=>?_) (fun q c ec=>?_) ?_
        .rw[hlen]at hq;have Qp:q<V.size:=by rw[Qn,nB];exact Nat.lt_of_lt_of_le hq (Nat.mul_le_mul_right _ (by omega))
         have Ig:V[q]? =some (V.getD q undef):=by simp[Array.getD_eq_getD_getElem?,Array.getElem?_eq_getElem Qp]
         simp only[Gh.uu,Nat.zero_add,hlen];by_cases vJ:q<rows.length*s
         .rw[if_neg (by rw[Ic];omega)];obtain⟨c,v,_,k2,_⟩:=vI.V_ BH vJ;rw[Nat.zero_add]at k2;have k3:=hI.fix _ _ _ k2;rw[cell_of zR,<-Qo q vJ,Ig]at k3;show G.F b q=_;rw[k2,k3]
         .rw[if_pos (by refine⟨?_,?_,?_⟩<;>first|trivial|(rw[Ic];omega)|exact hq)];exact Ig
        .rw[Df]at ec;have sB:=(List.getElem?_eq_some_iff.1 ec).1;rw[List.length_append,wM BH,wM (fun r hr=>(zT r hr).1),<-Nat.add_mul]at sB;have Qp:q<V.size:=by rw[Qn,nB];exact Nat.lt_of_lt_of_le sB (Nat.mul_le_mul_right _ (by omega))
         have Ig:V[q]? =some (V.getD q undef):=by simp[Array.getD_eq_getD_getElem?,Array.getElem?_eq_getElem Qp]
         refine VR.mono (by rw[hlen];exact hle) ?_;by_cases vJ:q<rows.length*s
         .obtain⟨c',v,k1,k2,k4⟩:=vI.V_ BH vJ;rw[Nat.zero_add]at k2;have k3:=hI.fix _ _ _ k2;rw[cell_of zR,<-Qo q vJ,Ig]at k3;rw[List.getElem?_append_left (by rw[wM BH];exact vJ),k1]at ec;cases ec;cases k3;exact k4
         .rw[List.getElem?_append_right (by rw[wM BH];omega),wM BH]at ec;obtain⟨v,k1,k2⟩:=q2.get ec;rw[List.getElem?_toArray,<-agX q (by omega) sB,Ig]at k1;cases k1;exact k2
        .exact⟨⟨rows.length+xs.length,some (b,cap,s,T)⟩,by simp[Gh.uu,Gh.jr],by simp,fun _=>by simp⟩
   cases own with
   |free=>
    obtain⟨rfl,hk⟩:=H;obtain⟨news,q1,q2,q3,q4⟩:=Qh (P:=P) hI hx tv h0 zT;have Ie:news=[]:=List.eq_nil_of_length_eq_zero (by simpa using q1);subst Ie;have vI:=hs;cases hs with
    |sl vals jc iT cj hF hv cP=>
     rename_i base cap sz;have hr:=run_append_fits (P:=P) (w:=w) (ty:=ty) ht hu (fun k e=>hd k e) hn (base:=base) (sLen:=rows.length) (sCap:=cap) (m:=0) (x:=vx) (news:=[]) q3 (q4 w rfl) (by omega) (w':=w) (fun a _=>by simp[storeCells]) (fun _=>rfl);exact⟨_,w,G,_,h,hr,Gh.le.refl G,hI,vI,hk⟩
   |full=>
    have hle:=hI.Wc ⟨rows.length,none⟩;have eA:=hI.agL rows.length;have zU:VR (G.jr h.length ⟨rows.length,none⟩) (.sl rows (.bN h.length)) vs:=by
     cases hs with
     |sl vals jc iT cj hF hv cP=>
      refine .sl vals jc iT cj (fun k r j c e e'=>?_) (fun k r j c e e'=>(hv k r j c e e').mono hle) ⟨⟨rows.length,none⟩,by simp[Gh.jr],Nat.le_refl _,fun _=>cP⟩;obtain⟨b,o,e1,e2⟩:=hF k r j c e e';exact⟨b,o,e1,e2⟩
    have agY:qi x (h++[.bN rows.length]) xs:=by
     unfold qi at tv|-;split at tv
     .exact tv
     .grind
     .exact tv.elim
    have pN:(h++[cO.bN rows.length]).set h.length (.bN (rows.length+xs.length))=h++[.bN (rows.length+xs.length)]:=by rw[List.set_append_right _ _ (Nat.le_refl _)];simp
    obtain⟨u',w',G',av,h',a1,a2,a3,a4,a5⟩:=key _ _ h.length vs vx eA zU (hx.mono hle) agY (by simp) (by rw[pN];exact H);exact⟨u',w',G',av,h',a1,hle.trans a2,a3,a4,a5⟩
   |bN i=>
    grind
  .exact H.elim
 .exact H.elim
end
section
variable {P:Program} {Γ:GG} {G:Gh} {h:AH} {w:World} {N:Nat} {σ:Tm}
def lC(d:Nat):Option AV->Option Int
 |none=>some d
 |some (.int _ n)=>some n
 |_=>none
def Fx(own:Own)(len:Nat)(l h:Int)(mx:Option AV):Own:=
 match mx with
 |some (.int _ m)=>if m=h then .full else .free
 |some _=> .free
 |none=>match own with
  | .full=>if h=len then .full else .free
  | .bN i=>if l=0 then .bN i else .free
  | .free=> .free
def uv(P:Program)(t:TypeId)(x:AV)(lo hi mx:Option AV)(K:AV->Prop):Prop:=
 match P.underlying t,x with
 |some .string,.str s=>mx=none/\(match lC 0 lo,lC s.size hi with
  |some l,some h=>0<=l/\l<=h/\h<=s.size/\K (.str (s.extract l.toNat h.toNat))
  |_,_=>False)
 |some (.slice e),.sl rows own=>(match dA P e,lC 0 lo,lC rows.length hi,lC rows.length mx with
  |some n,some l,some h,some m=>db n rows/\0<=l/\l<=h/\h<=m/\m<=rows.length/\(mx.isSome=true->hi.isSome=true)/\K (.sl ((rows.take h.toNat).drop l.toNat) (Fx own rows.length l h mx))
  |_,_,_,_=>False)
 |some (.slice e),.ms i off len cap sz=>(match dA P e,lC 0 lo,lC len hi,lC cap mx with
  |some n,some l,some h,some m=>n=sz/\0<=l/\l<=h/\h<=m/\m<=cap/\(mx.isSome=true->hi.isSome=true)/\K (.ms i (if m=l then off else off+l.toNat*sz) (h.toNat-l.toNat) (m.toNat-l.toNat) sz)
  |_,_,_,_=>False)
 |_,_=>False
def vK(G:Gh):Option AV->Option Value->Prop
 |none,none=>True
 |some a,some v=>VR G a v
 |_,_=>False
theorem run_sliceBound{v k}{i:Int}{y:Nat}{code}(hv:v= .int k i)(h:0<=i)(h':i<=y)(w):(Instr.sliceBound v y code).run P w= .ok i.toNat w:=by subst hv;simp[Instr.sliceBound,asIntOf,h,h']
theorem Fy{d x u n}(hv:vK G x u)(e:lC d x=some n):(x=none/\u=none/\n=d)\/(∃k,x=some (.int k n)/\u=some (.int k n)):=by
 cases x with
 |none=>cases u with
  |none=>simp[lC]at e;exact .inl ⟨rfl,rfl,e.symm⟩
  |some _=>exact hv.elim
 |some a=>cases u with
  |none=>exact hv.elim
  |some v=>
   cases a<;>simp[lC]at e;subst e;cases hv;exact .inr ⟨_,rfl,rfl⟩
theorem Qq{isS len cap lo hi mx ul uh um}(h1:vK G lo ul)(h2:vK G hi uh)(h3:vK G mx um){l h m c}(hc:c<=cap)
  (e1:lC 0 lo=some l)(e2:lC len hi=some h)(e3:lC c mx=some m)(a1:0<=l)(a2:l<=h)(a3:h<=m)(a4:m<=c)(a5:mx.isSome=true->hi.isSome=true)(w):
  (Instr.sliceBounds isS len cap ul uh um).run P w= .ok (l.toNat,h.toNat,if mx.isSome then m.toNat else cap) w:=by
 rcases Fy h3 e3 with⟨rfl,rfl,rfl⟩|⟨k3,rfl,rfl⟩
 .rcases Fy h2 e2 with⟨rfl,rfl,rfl⟩|⟨k2,rfl,rfl⟩<;>rcases Fy h1 e1 with⟨rfl,rfl,rfl⟩|⟨k1,rfl,rfl⟩
  .simp[Instr.sliceBounds]
  .simp[Instr.sliceBounds,run_sliceBound rfl a1 a2]
  .simp[Instr.sliceBounds,run_sliceBound (y:=cap) rfl (show(0:Int)<=h by omega) (by omega)]
  .simp[Instr.sliceBounds,run_sliceBound (y:=cap) rfl (show(0:Int)<=h by omega) (by omega),run_sliceBound (y:=h.toNat) (v:= .int k1 l) rfl a1 (by omega)]
 .rcases Fy h2 e2 with⟨rfl,rfl,rfl⟩|⟨k2,rfl,rfl⟩
  .simp at a5
  .rcases Fy h1 e1 with⟨rfl,rfl,rfl⟩|⟨k1,rfl,rfl⟩
   .simp[Instr.sliceBounds,run_sliceBound (y:=cap) (v:= .int k3 m) rfl (show(0:Int)<=m by omega) (by omega),run_sliceBound (y:=m.toNat) (v:= .int k2 h) rfl (show(0:Int)<=h by omega) (by omega)]
   .simp[Instr.sliceBounds,run_sliceBound (y:=cap) (v:= .int k3 m) rfl (show(0:Int)<=m by omega) (by omega),run_sliceBound (y:=m.toNat) (v:= .int k2 h) rfl (show(0:Int)<=h by omega) (by omega),
     run_sliceBound (y:=h.toNat) (v:= .int k1 l) rfl a1 (by omega)]
theorem agZ(hI:Inv Γ G h w){t x v lo hi mx ul uh um}(hx:VR G x v)(h1:vK G lo ul)(h2:vK G hi uh)(h3:vK G mx um){K}
  (H:uv P t x lo hi mx fun v=>K v h):iw P Γ G w (Instr.sliceAt t v ul uh um) K:=by
 unfold uv at H;split at H
 .rename_i s hd;obtain⟨rfl,H⟩:=H;split at H
  .rename_i l hh e1 e2;obtain⟨a1,a2,a3,hk⟩:=H;cases hx with
   |str=>
    have hb:=Qq (P:=P) (isS:=false) (cap:=s.size) h1 h2 (show vK G none none from trivial) (Nat.le_refl _) e1 e2 (show lC s.size none=some (s.size:Int)from rfl) a1 a2 a3 (Int.le_refl _) (by simp) w;cases um with
    |some _=>exact h3.elim
    |none=>exact .pure' hI (by simp[Instr.sliceAt,run_underlying hd,Instr.slice,hb]<;>rfl) (.str _) hk
  .exact H.elim
 .rename_i e rows own hd;split at H
  .rename_i n l hh m hn e1 e2 e3;obtain⟨eD,a1,a2,a3,a4,a5,hk⟩:=H;cases hx with
   |sl vals jc iT cj hF hv cP=>
    rename_i a cap sz;have hb:=Qq (P:=P) (isS:=true) (cap:=cap) h1 h2 h3 jc e1 e2 e3 a1 a2 a3 a4 a5 w;generalize hM:(if mx.isSome then m.toNat else cap)=M at hb;have hr:(Instr.sliceAt t (.slice a rows.length cap) ul uh um).run P w= .ok (.slice (if M=l.toNat then a else a.map (·.add (l.toNat*n))) (hh.toNat-l.toNat) (M-l.toNat)) w:=by simp[Instr.sliceAt,run_underlying hd,Instr.slice,hb,o8 hn]
    have hMh:hh.toNat<=M:=by rw[<-hM];split<;>omega
    have hMc:M<=cap:=by rw[<-hM];split<;>omega
    have hlen:((rows.take hh.toNat).drop l.toNat).length=hh.toNat-l.toNat:=by rw[List.length_drop,List.length_take];omega
    have sC:∀k r,((rows.take hh.toNat).drop l.toNat)[k]? =some r->rows[l.toNat+k]? =some r/\l.toNat+k<hh.toNat:=fun k r ek=>by grind
    refine .pure' hI (u:= .slice (if M=l.toNat then a else a.map (·.add (l.toNat*n))) (hh.toNat-l.toNat) (M-l.toNat)) hr ?_ hk;rw[<-hlen];refine .sl (sz:=sz) (fun k j=>vals (l.toNat+k) j) (by rw[hlen];omega) (fun ea=>?_) (fun k r ek=>cj _ r (sC k r ek).1) (fun k r j c ek ec=>?_) (fun k r j c ek ec=>hv _ r j c (sC k r ek).1 ec) ?_
    .have:a=none:=by
      split at ea
      .exact ea
      simp_all
     have:=iT this;omega
    .obtain⟨b,o,q1,q2⟩:=hF _ r j c (sC k r ek).1 ec;have cV:¬M=l.toNat:=by have:=(sC k r ek).2;omega
     have hs:sz=n:=(cj _ r (sC k r ek).1).symm.trans (eD r (List.mem_of_getElem? (sC k r ek).1)).1;subst hs;refine⟨b,o+l.toNat*sz,by rw[if_neg cV,q1];simp[Addr.add_lit],?_⟩;grind
    .generalize hA:(if M=l.toNat then a else a.map fun x=>x.add (l.toNat*n))=A;unfold Fx;split
     .rename_i k' m';have:m'=m:=by simpa [lC]using e3
      subst this;simp only[Option.isSome_some,if_true]at hM;split
      .show M-l.toNat=_;rw[hlen];omega
      .trivial
     .trivial
     .simp only[Option.isSome_none,Bool.false_eq_true,if_false]at hM;split
      .split
       .show M-l.toNat=_;rw[hlen];have:cap=rows.length:=cP;omega
       .trivial
      .rename_i i;split
       .rename_i pM;obtain⟨r,q1,q2,q3⟩:=cP;refine⟨r,q1,by rw[hlen];omega,fun eq=>?_⟩;rw[hlen]at eq;have ag0:rows.length=r.n:=by omega
        have:=q3 ag0;subst pM;simp only[Int.toNat_zero,Nat.sub_zero]at hlen|-;have auA:A=a:=by
         rw[<-hA];split
         .rfl
         .cases a<;>simp[Addr.add_zero']
        grind
       .trivial
      .trivial
  .exact H.elim
 .rename_i e i off len cap sz hd;split at H
  .rename_i n l hh m hn e1 e2 e3;obtain⟨rfl,a1,a2,a3,a4,a5,hk⟩:=H;cases hx with
   | @ms _ B _ _ _ _ BI=>
    have hb:=Qq (P:=P) (isS:=true) (cap:=cap) h1 h2 h3 (Nat.le_refl _) e1 e2 e3 a1 a2 a3 a4 a5 w;have hM:(if mx.isSome then m.toNat else cap)=m.toNat:=by rcases Fy h3 e3 with⟨rfl,_,rfl⟩|⟨k,rfl,_⟩<;>simp
    rw[hM]at hb;have hr:(Instr.sliceAt t (.slice (some ⟨B,off,none⟩) len cap) ul uh um).run P w= .ok (.slice (some ⟨B,if m=l then off else off+l.toNat*n,none⟩) (hh.toNat-l.toNat) (m.toNat-l.toNat)) w:=by
     simp only[Instr.sliceAt,Sem.run_bind,run_underlying hd,Result.andThen_ok,Instr.slice,hb,o8 hn,Sem.run_pure,Option.map_some,Addr.add_lit];by_cases Dj:m=l
     .simp[Dj]
     .rw[if_neg (by omega),if_neg Dj]
    exact .pure' hI hr (.ms BI) hk
  .exact H.elim
 .exact H.elim
def zV(P:Program)(t:TypeId)(x:AV)(h:AH)(K:AV->Prop):Prop:=
 match P.underlying t,x with
 |some .string,.str s=>K (.int .i64 s.size)
 |some (.slice _),.sl rows _=>K (.int .i64 rows.length)
 |some (.slice _),.ms _ _ len _ _=>K (.int .i64 len)
 |some (.array n _),_=>K (.int .i64 n)
 |some (.map _ _),.map none=>K (.int .i64 0)
 |some (.map _ _),.map (some i)=>(match h[i]? with
  |some (.map es _)=>K (.int .i64 es.length)
  |_=>False)
 |_,_=>False
theorem ag1(hI:Inv Γ G h w){t ts ty x v}(hx:VR G x v)(rB:ts[0]? =some t){K}(H:zV P t x h fun v=>K v h):
  iw P Γ G w (Builtin.len_ ts ty #[v]) K:=by
 unfold zV at H;split at H
 .rename_i hd;cases hx;exact .pure' hI (by simp[Builtin.len_,rB,run_underlying hd,goInt]<;>rfl) (.int _ _) H
 .rename_i hd;cases hx;exact .pure' hI (by simp[Builtin.len_,rB,run_underlying hd,goInt]<;>rfl) (.int _ _) H
 .rename_i hd;cases hx;exact .pure' hI (by simp[Builtin.len_,rB,run_underlying hd,goInt]<;>rfl) (.int _ _) H
 .rename_i hd;exact .pure' hI (by simp[Builtin.len_,rB,run_underlying hd,goInt]<;>rfl) (.int _ _) H
 .rename_i hd;cases hx;exact .pure' hI (by simp[Builtin.len_,rB,run_underlying hd,goInt]<;>rfl) (.int _ _) H
 .rename_i i hd;split at H
  .rename_i es clk gw;obtain⟨b,es',k1,k2,k3,_⟩:=hI.obj i _ gw;cases hx with
   |map hb=>
    rw[k1]at hb;cases hb;exact .pure' hI (by simp[Builtin.len_,rB,run_underlying hd,run_getObj_map _ _ _ _ k2,goInt]<;>rfl) (by rw[<-k3];exact .int _ _) H
  .exact H.elim
 .exact H.elim
def L5(h:AH)(K:AV->AH->Prop):Prop:=K (.map (some h.length)) (h++[.map [] 0])
theorem ag2(hI:Inv Γ G h w){t K}(H:L5 h K):iw P Γ G w (Instr.makeMap t none) K:=
 ⟨.map (some w.heap.size),w.alloc (.map #[] 0),G.add h.length w.heap.size,_,_,by simp[Instr.makeMap],hI.uk _,
  hI.alloc (.map #[] 0) (.map [] 0) ⟨w.heap.size,#[],Gh.add_same _ _ _,heap_alloc_new w _,rfl,fun j e x he=>by simp at he⟩,.map (Gh.add_same _ _ _),H⟩
def kr(k:AV):List (Nat×AV×AV)->Option (Option Nat)
 |[]=>some none
 |(_,k',_)::r=>(match k,k' with
  | .int p a,.int q b=>if p=q then(if a=b then some (some 0)else(kr k r).map (Option.map (·+1)))else none
  | .str a,.str b=>if(a==b)=true then some (some 0)else(kr k r).map (Option.map (·+1))
  |_,_=>none)
def vM:TypeDesc->AV->Bool
 | .int _,.int _ _=>true
 | .string,.str _=>true
 |_,_=>false
def foundAt(es:List MapEntry)(n:Nat):Option Nat->Option (Nat×Value)
 |none=>none
 |some i=>(es[i]?).map fun x=>(n+i,x.val)
theorem VR.Dk{G k n v}(h:VR G (.int k n) v):v= .int k n:=by cases h;rfl
theorem VR.Fz{G s v}(h:VR G (.str s) v):v= .string s:=by cases h;rfl
theorem Qr{G kd k u}(hk:VR G k u)(hf:vM kd k=true):∀(cB) (es) (n),cB.length=es.length->
  (∀(j:Nat) (e) (x),cB[j]? =some e->es[j]? =some x->VR G e.2.1 x.key)->∀{r},kr k cB=some r->
  Instr.findNow kd u es n=some (foundAt es n r)/\(∀i,r=some i->i<es.length):=by
 intro cB;induction cB with
 |nil=>
  intro es n hl _ r hr;cases es with
  |nil=>simp[kr]at hr;subst hr;exact⟨rfl,fun i e=>by cases e⟩
  |cons _ _=>simp at hl
 |cons e cB ih=>
  intro es n hl hv r hr;cases es with
  |nil=>simp at hl
  |cons x es=>
   obtain⟨b,k',v'⟩:=e;have Dl:=hv 0 _ _ rfl rfl;simp only at Dl;have step:∀{same:Bool},Instr.sameNow kd u x.key=some same->(if same then some (some 0)else(kr k cB).map (Option.map (·+1)))=some r->
     Instr.findNow kd u (x::es) n=some (foundAt (x::es) n r)/\(∀i,r=some i->i<(x::es).length):=fun {same} hs hr=>by
    simp only[Instr.findNow,hs];cases same with
    |true=>simp at hr;subst hr;exact⟨by simp[foundAt],fun i e=>by cases e;simp⟩
    |false=>
     simp only[Bool.false_eq_true,if_false,Option.map_eq_some_iff]at hr;obtain⟨r',h1,h2⟩:=hr;obtain⟨q1,q2⟩:=ih es (n+1) (by simpa using hl) (fun j e x he hx=>hv (j+1) e x he hx) h1;subst h2;rw[q1];cases r' with
     |none=>exact⟨rfl,fun i e=>by cases e⟩
     |some i=>exact⟨by simp[foundAt,Nat.add_assoc,Nat.add_comm 1 i],fun j e=>by grind⟩
   unfold kr at hr;split at hr
   .rename_i p a q c;have hu:=hk.Dk;have Qs:=Dl.Dk;split at hr
    .rename_i Qt;subst Qt;refine step (same:=(a==c)) ?_ (by simpa using hr);rw[hu,Qs];cases kd<;>simp[vM]at hf;simp[Instr.sameNow]
    .cases hr
   .rename_i a c;have hu:=hk.Fz;have Qs:=Dl.Fz;refine step (same:=(a==c)) ?_ hr;rw[hu,Qs];cases kd<;>simp[vM]at hf;simp[Instr.sameNow]
   .cases hr
theorem Ih{kt kd}(rC:P.underlying kt=some kd){k u}(hk:VR G k u)(hf:vM kd k=true)(b n w):(Instr.checkKey b (n+1) kt u).run P w= .ok () w:=by cases k<;>cases kd<;>simp[vM]at hf<;>cases hk<;>simp[Instr.checkKey,run_underlying rC]
def tA(ok:Bool)(z:AV)(r:Option (Option Nat))(cB:List (Nat×AV×AV))(K:AV->Prop):Prop:=match r with
 |some none=>K (if ok then .tuple [z,.bool false]else z)
 |some (some j)=>(match cB[j]? with
  |some e=>K (if ok then .tuple [e.2.2,.bool true]else e.2.2)
  |none=>False)
 |none=>False
def Dm(ok:Bool)(z k:AV)(ob:Option cO)(K:AV->Prop):Prop:=match ob with
 |some (.map cB _)=>tA ok z (kr k cB) cB K
 |_=>False
def BJ(z m k:AV)(ok:Bool)(h:AH)(K:AV->Prop):Prop:=match m with
 | .map none=>K (if ok then .tuple [z,.bool false]else z)
 | .map (some i)=>Dm ok z k (h[i]?) K
 |_=>False
def zW(P:Program)(t:TypeId)(m k:AV)(ok:Bool)(h:AH)(K:AV->Prop):Prop:=
 match P.underlying t with
 |some (.map kt et)=>(match P.underlying kt,jy P et with
  |some kd,some z=>vM kd k=true/\BJ (zM z) m k ok h K
  |_,_=>False)
 |_=>False
theorem VR.BK{G a v}(ha:VR G a v)(ok b:Bool):VR G (if ok then .tuple [a,.bool b]else a) (if ok then .tuple #[v,.bool b]else v):=by
 cases ok with
 |false=>exact ha
 |true=>
  have:=b9.cons ha (b9.one (VR.bool (G:=G) b));exact .tuple this.1 this.2
theorem ag3(hI:Inv Γ G h w){t m k vm vk ok}(hm:VR G m vm)(hk:VR G k vk){K}(H:zW P t m k ok h fun v=>K v h):iw P Γ G w (Instr.lookup t vm vk ok) K:=by
 unfold zW at H;split at H
 .rename_i kt et hd;split at H
  .rename_i kd z rC hz;obtain⟨hf,H⟩:=H;unfold BJ at H;split at H
   .cases hm;exact .pure' hI (u:=if ok then .tuple #[z,.bool false]else z) (by simp[Instr.lookup,run_underlying hd,Ih rC hk hf,Instr.findKey,run_underlying rC,Instr.findNow,vB hz]) ((Fh G z).BK ok false) H
   .rename_i i;unfold Dm tA at H;split at H
    .rename_i cB clk gw;obtain⟨b,es,k1,k2,k3,k4⟩:=hI.obj i _ gw;cases hm with
     |map hb=>
      rw[k1]at hb;cases hb;have wR:∀(j:Nat) (e:Nat×AV×AV) (x:MapEntry),cB[j]? =some e->es.toList[j]? =some x->VR G e.2.1 x.key:=fun j e x he hx=>(k4 j e x he (by simpa using hx)).2.1;split at H
      .rename_i hr;obtain⟨q1,_⟩:=Qr (kd:=kd) hk hf cB es.toList 0 (by simpa using k3) wR hr;exact .pure' hI (u:=if ok then .tuple #[z,.bool false]else z) (by simp[Instr.lookup,run_underlying hd,run_getObj_map _ _ _ _ k2,Ih rC hk hf,Instr.findKey,run_underlying rC,q1,foundAt,vB hz]) ((Fh G z).BK ok false) H
      .rename_i j hr;obtain⟨q1,q2⟩:=Qr (kd:=kd) hk hf cB es.toList 0 (by simpa using k3) wR hr;have hj:=q2 j rfl;obtain⟨x,hx⟩:∃x,es.toList[j]? =some x:=⟨_,List.getElem?_eq_getElem hj⟩;split at H
       .rename_i e he;have c_:=(k4 j e x he (by simpa using hx)).2.2;have nh:es[j]? =some x:=by simpa using hx
        exact .pure' hI (u:=if ok then .tuple #[x.val,.bool true]else x.val) (by simp[Instr.lookup,run_underlying hd,run_getObj_map _ _ _ _ k2,Ih rC hk hf,Instr.findKey,run_underlying rC,q1,foundAt,nh]) (c_.BK ok true) H
       .exact H.elim
      .exact H.elim
    .exact H.elim
   .exact H.elim
  .exact H.elim
 .exact H.elim
end
section
variable {P:Program} {Γ:GG} {G:Gh} {h:AH} {w:World} {N:Nat} {σ:Tm}
theorem L6{b es c o}(hb:w.heap[b]? =some (.map es c)):(setObj b o).run P w= .ok () (w.putObj b o):=by simp[setObj,Sem.run,hb,World.putObj]
theorem Wg(a b:ByteArray):(a==b)=true<->a=b:=by obtain⟨a⟩:=a;obtain⟨b⟩:=b;show(a==b)=true<->_;grind
def sD(cB:List (Nat×AV×AV))(clk:Nat)(k x:AV):Option Nat->Option cO
 |none=>some (.map (cB++[(clk,k,x)]) (clk+1))
 |some j=>(cB[j]?).map fun e=> .map (cB.set j (e.1,k,x)) clk
def wS(P:Program)(t:TypeId)(m k x:AV)(h:AH)(K:AH->Prop):Prop:=
 match P.underlying t with
 |some (.map kt _)=>(match P.underlying kt with
  |some kd=>vM kd k=true/\(match m with
   | .map (some i)=>(match h[i]? with
    |some (.map cB clk)=>(match(kr k cB).bind (sD cB clk k x)with
     |some ob=>K (h.set i ob)
     |none=>False)
    |_=>False)
   |_=>False)
  |none=>False)
 |_=>False
theorem Inv.L7(hI:Inv Γ G h w){i b}(hb:G.ρ i=some b){Qu c0}(hw:w.heap[b]? =some (.map Qu c0)){cB es clk}
  (hl:cB.length=es.size)(hv:∀(j:Nat) (e) (x),cB[j]? =some e->es[j]? =some x->x.born=e.1/\VR G e.2.1 x.key/\VR G e.2.2 x.val)(uo:h[i]? ≠some .frozen):
  Inv Γ G (h.set i (.map cB clk)) (w.putObj b (.map es clk)):=by
 have dN:=uj hw;have lb:(w.putObj b (.map es clk)).heap[b]? =some (.map es clk):=by simp[World.putObj,dN]
 refine hI.write (w':=w.putObj b (.map es clk)) hb (by simp[World.putObj]) rfl rfl rfl (fun k hk=>World.putObj_heap_other hk) _ ⟨b,es,hb,lb,hl,hv⟩ (fun D hD=>?_) (by rw[hw];simp) uo;obtain⟨l,e1,_⟩:=hI.lp b D hD;rw[hw]at e1;cases e1
theorem ag4{kd k k' u u'}(hk:VR G k u)(ng:VR G k' u')(hf:vM kd k=true){cB j e}(hr:kr k cB=some (some j))(he:cB[j]? =some e)(Wh:k'=e.2.1):
  Instr.sameBits 10000 u' u=true:=by
 induction cB generalizing j with
 |nil=>simp[kr]at hr
 |cons a cB ih=>
  obtain⟨b,q,v⟩:=a;unfold kr at hr;split at hr
  .rename_i p a q' c;split at hr
   .rename_i Qt;subst Qt;split at hr
    .rename_i Qv;subst Qv;cases hr;simp at he;subst he;subst Wh;rw[hk.Dk,ng.Dk];simp[Instr.sameBits]
    .simp only[Option.map_eq_some_iff]at hr;grind
   .cases hr
  .rename_i a c;split at hr
   .rename_i Qv;have ag5:a=c:=(Wg _ _).1 Qv;subst ag5;cases hr;simp at he;subst he;subst Wh;rw[hk.Fz,ng.Fz];exact(Wg a a).2 rfl
   .simp only[Option.map_eq_some_iff]at hr;grind
  .cases hr
theorem ag6(hI:Inv Γ G h w){t m k x vm vk vx}(hm:VR G m vm)(hk:VR G k vk)(hx:VR G x vx){K}(H:wS P t m k x h K):LR P Γ G w (Instr.mapUpdate t vm vk vx) K:=by
 unfold wS at H;split at H
 .rename_i kt et hd;split at H
  .rename_i kd rC;obtain⟨hf,H⟩:=H;split at H
   .rename_i i;split at H
    .rename_i cB clk gw;obtain⟨b,es,k1,k2,k3,k4⟩:=hI.obj i _ gw;cases hm with
     |map hb=>
      rw[k1]at hb;cases hb;have wR:∀(j:Nat) (e:Nat×AV×AV) (x:MapEntry),cB[j]? =some e->es.toList[j]? =some x->VR G e.2.1 x.key:=fun j e x he hx=>(k4 j e x he (by simpa using hx)).2.1;split at H
      .rename_i ob pL;rw[Option.bind_eq_some_iff]at pL;obtain⟨r,hr,pL⟩:=pL;obtain⟨q1,q2⟩:=Qr (kd:=kd) hk hf cB es.toList 0 (by simpa using k3) wR hr;cases r with
       |none=>
        cases pL;refine⟨w.putObj b (.map (es.push {key:=vk,val:=vx,born:=clk}) (clk+1)),G,_,?_,Gh.le.refl G,hI.L7 k1 k2 (by simp[k3]) (fun j e y he hy=>?_) (by rw[gw];simp),H⟩
        .simp[Instr.mapUpdate,run_underlying hd,run_getObj_map _ _ _ _ k2,Ih rC hk hf,Instr.findKey,run_underlying rC,q1,foundAt,L6 k2]
        grind
       |some j=>
        simp only[sD,Option.map_eq_some_iff]at pL;obtain⟨e0,Dn,rfl⟩:=pL;have hj:=q2 j rfl;have zZ:j<es.size:=by simpa using hj
        have Ii:es[j]? =some es[j]:=Array.getElem?_eq_getElem zZ;have Ij:=(k4 j e0 _ Dn Ii).2.1;have FA:=ag4 hk Ij hf hr Dn rfl;refine⟨w.putObj b (.map (es.modify j fun e=>{e with key:=vk,val:=vx}) clk),G,_,?_,Gh.le.refl G,hI.L7 k1 k2 (by simp[k3]) (fun j' e y he hy=>?_) (by rw[gw];simp),H⟩
        .simp[Instr.mapUpdate,run_underlying hd,run_getObj_map _ _ _ _ k2,Ih rC hk hf,Instr.findKey,run_underlying rC,q1,foundAt,Ii,Instr.keyThatStays,FA,L6 k2]
        grind
      .exact H.elim
    .exact H.elim
   .exact H.elim
  .exact H.elim
 .exact H.elim
end
section
variable {P:Program} {Γ:GG} {G:Gh} {h:AH} {w:World} {N:Nat} {σ:Tm}
def FB(x y:AV)(K:AV->Prop):Prop:=match x,y with
 | .int k a,.int k' b=>k=k'/\K (.int k (if b<a then b else a))
 |_,_=>False
def z6(x y:AV)(K:AV->Prop):Prop:=match x,y with
 | .int k a,.int k' b=>k=k'/\K (.int k (if a<b then b else a))
 |_,_=>False
theorem ag7(hI:Inv Γ G h w){ts ty x y u v}(hx:VR G x u)(hy:VR G y v){K}(H:FB x y fun v=>K v h):iw P Γ G w (Builtin.min_ ts ty #[u,v]) K:=by
 unfold FB at H;split at H
 .obtain⟨rfl,hk⟩:=H;cases hx;cases hy;exact .pure' hI (by simp[Builtin.min_,Builtin.min2]<;>rfl) (.int _ _) hk
 .exact H.elim
theorem ag8(hI:Inv Γ G h w){ts ty x y u v}(hx:VR G x u)(hy:VR G y v){K}(H:z6 x y fun v=>K v h):iw P Γ G w (Builtin.max_ ts ty #[u,v]) K:=by
 unfold z6 at H;split at H
 .obtain⟨rfl,hk⟩:=H;cases hx;cases hy;exact .pure' hI (by simp[Builtin.max_,Builtin.max2]<;>rfl) (.int _ _) hk
 .exact H.elim
def Wi(P:Program)(t:TypeId):Option (IntKind×Nat):=match P.underlying t with
 |some (.array n e)=>(match P.underlying e with
  |some (.int k)=>if P.plainKey e&&(P.info? e).isSome&&Nat.beq (P.cellsOf e) 1&&!(P.eqGuardType P.depth t)then some (k,n)else none
  |_=>none)
 |_=>none
def Dp(k:IntKind):List AV->List AV->Option Bool
 |[],[]=>some true
 | .int k1 a::r,.int k2 b::s=>if k1=k/\k2=k then(Dp k r s).map fun t=>decide (a=b)&&t else none
 |_,_=>none
def FC(op:BinOp)(r:Option Bool)(K:AV->Prop):Prop:=match r with
 |some b=>(match op with
  | .eql=>K (.bool b)
  | .neq=>K (.bool (!b))
  |_=>False)
 |none=>False
def Qw(d:Option (IntKind×Nat))(op:BinOp)(xs ys:List AV)(K:AV->Prop):Prop:=match d with
 |some (k,n)=>xs.length=n/\FC op (Dp k xs ys) K
 |none=>False
inductive CK where
 |int|bool|str
def yy:Option TypeDesc->Option CK
 |some (.int _)=>some .int
 |some .bool=>some .bool
 |some .string=>some .str
 |_=>none
def L8(P:Program)(t:TypeId):Option (List (Nat×CK)):=match P.underlying t with
 |some (.struct fs)=>if P.stoodInHeld t||P.eqGuardType P.depth t then none else
   fs.toList.mapM fun f=>if f.name= "_" then none else if P.plainKey f.type then(yy (P.underlying f.type)).map fun k=>(f.offset,k)else none
 |_=>none
def BL:CK->AV->AV->Option Bool
 | .int,.int k a,.int k' c=>if k=k' then some (decide (a=c))else none
 | .bool,.bool a,.bool c=>some (a==c)
 | .str,.str a,.str c=>some (a.toList==c.toList)
 |_,_,_=>none
def Qx(k:CK):Option AV->Option AV->Option Bool
 |some a,some c=>BL k a c
 |_,_=>none
def Qy:Option Bool->Option Bool->Option Bool
 |some a,some b=>some (a&&b)
 |_,_=>none
def yz(xs ys:List AV):List (Nat×CK)->Option Bool
 |[]=>some true
 |(o,k)::r=>Qy (Qx k xs[o]? ys[o]?) (yz xs ys r)
def Qz(d:Option (List (Nat×CK)))(op:BinOp)(xs ys:List AV)(K:AV->Prop):Prop:=match d with
 |some l=>FC op (yz xs ys l) K
 |none=>False
def QA(d:Option (List (Nat×CK)))(d2:Option (IntKind×Nat))(op:BinOp)(xs ys:List AV)(K:AV->Prop):Prop:=match d with
 |some l=>Qz (some l) op xs ys K
 |none=>Qw d2 op xs ys K
def uy(P:Program)(op:BinOp)(t:TypeId)(x y:AV)(K:AV->Prop):Prop:=
 match x,y with
 | .agg xs,.agg ys=>QA (L8 P t) (Wi P t) op xs ys K
 |_,_=>su P op t x y K
theorem ag9{G k e a c u v b}(hk:yy (P.underlying e)=some k)(ha:VR G a u)(hc:VR G c v)(h:BL k a c=some b)(d w):(Op.equalIn (d+1) e u v).run P w= .ok b w:=by
 unfold yy at hk;split at hk
 .rename_i hu;cases hk;cases a<;>cases c<;>simp[BL]at h;obtain⟨rfl,rfl⟩:=h;cases ha;cases hc;simp only[Op.equalIn,Sem.run_bind,run_underlying hu,Result.andThen_ok,if_true,Sem.run_pure];congr 1
 .rename_i hu;cases hk;cases a<;>cases c<;>simp[BL]at h;subst h;cases ha;cases hc;simp only[Op.equalIn,Sem.run_bind,run_underlying hu,Result.andThen_ok,Sem.run_pure]
 .rename_i hu;cases hk;cases a<;>cases c<;>simp[BL]at h;subst h;cases ha;cases hc;simp only[Op.equalIn,Sem.run_bind,run_underlying hu,Result.andThen_ok,Sem.run_pure,beq_toListBytes]
 .cases hk
theorem QB{G:Gh}{xs ys:List AV}{vx vy:Array Value}(hx:b9 G xs vx)(hy:b9 G ys vy)(d:Nat)(w:World):∀(fs:List Field) (l:List (Nat×CK)) {b:Bool},
  fs.mapM (fun f=>if f.name= "_" then none else if P.plainKey f.type then(yy (P.underlying f.type)).map fun k=>(f.offset,k)else none)=some l->yz xs ys l=some b->(Op.eqFields (d+1) vx vy fs).run P w= .ok b w
 |[],l,b,hl,hb=>by simp at hl;subst hl;cases hb;simp[Op.eqFields]
 |f::fs,l,b,hl,hb=>by
  rw[List.mapM_cons]at hl;simp only[bind,Option.bind_eq_some_iff,pure,Option.some.injEq]at hl;obtain⟨q,h1,l',h2,rfl⟩:=hl;split at h1
  .cases h1
  .rename_i hn;split at h1
   .rename_i hp;obtain⟨k,hk,rfl⟩:=Option.map_eq_some_iff.1 h1;simp only[yz]at hb;unfold Qy at hb;split at hb
    .rename_i b1 b2 fI jH;cases hb;unfold Qx at fI;split at fI
     .rename_i a c ea ec;obtain⟨u,eu,ru⟩:=hx.get ea;obtain⟨v,ev,rv⟩:=hy.get ec;have p1:=run_part_plain (P:=P) w hp (xs:=vx) (off:=f.offset) eu;have p2:=run_part_plain (P:=P) w hp (xs:=vy) (off:=f.offset) ev;have p3:=ag9 (P:=P) hk ru rv fI d w;have ih:=QB hx hy d w fs l' h2 jH;simp only[Op.eqFields,hn,ne_eq,not_false_eq_true,if_true,Sem.run_bind,p1,p2,p3,Result.andThen_ok];cases b1
      .simp
      .simpa using ih
     .cases fI
    .cases hb
   .cases h1
theorem Wj{k:IntKind}:∀{xs ys:List AV} {b:Bool},Dp k xs ys=some b->ys.length=xs.length/\(∀j,j<xs.length->∃a c,xs[j]? =some (.int k a)/\ys[j]? =some (.int k c))/\
  (b=true<->∀(j:Nat) (a c:Int),xs[j]? =some (.int k a)->ys[j]? =some (.int k c)->a=c)
 |[],[],b,h=>by simp[Dp]at h;subst h;simp
 |x::r,y::s,b,h=>by
  unfold Dp at h;split at h
  .rename_i e _;cases e
  .rename_i k1 a r' k2 c s' e1 e2;cases e1;cases e2;split at h
   .rename_i hk;obtain⟨rfl,rfl⟩:=hk;obtain⟨t,ht,rfl⟩:=Option.map_eq_some_iff.1 h;obtain⟨h1,h2,h3⟩:=Wj ht;refine⟨by simp[h1],fun j hj=>?_,?_⟩
    .grind
    .rw[Bool.and_eq_true,decide_eq_true_eq,h3];constructor
     .grind
     .intro hh;exact⟨hh 0 a c rfl rfl,fun j a' c' e e'=>hh (j+1) a' c' (by simpa using e) (by simpa using e')⟩
   .cases h
  .cases h
 |[],_::_,b,h=>by simp[Dp]at h
 |_::_,[],b,h=>by simp[Dp]at h
theorem Wl{e:TypeId}{k:IntKind}(he:P.plainKey e=true)(hu:P.underlying e=some (.int k))(hc:P.cellsOf e=1)(d:Nat)(xs ys:Array Value)(w:World):
  ∀is:List Nat,(∀i∈is,∃a b,xs[i]? =some (.int k a)/\ys[i]? =some (.int k b))->∃r:Bool,(Op.eqItems (d+1) e (P.cellsOf e) xs ys is).run P w= .ok r w/\(r=true<->∀i∈is,xs[i]? =ys[i]?)
 |[],_=>⟨true,by simp[Op.eqItems],by simp⟩
 |i::is,hi=>by
  obtain⟨a,b,h1,h2⟩:=hi i (List.mem_cons_self ..);obtain⟨r,hr,Wm⟩:=Wl he hu hc d xs ys w is fun j hj=>hi j (List.mem_cons_of_mem _ hj);have p1:=run_part_plain (P:=P) w he (xs:=xs) (off:=i*P.cellsOf e) (by rw[hc,Nat.mul_one];exact h1);have p2:=run_part_plain (P:=P) w he (xs:=ys) (off:=i*P.cellsOf e) (by rw[hc,Nat.mul_one];exact h2);have p3:(Op.equalIn (d+1) e (.int k a) (.int k b)).run P w= .ok (a==b) w:=by simp only[Op.equalIn,Sem.run_bind,run_underlying hu,Result.andThen_ok,if_true,Sem.run_pure]
  simp only[Op.eqItems,Sem.run_bind,p1,p2,p3,Result.andThen_ok];by_cases nj:a=b
  .grind
  simp_all
theorem ag_(hI:Inv Γ G h w){op t ox oy x y u v}(hx:VR G x u)(hy:VR G y v){K}(H:uy P op t x y fun v=>K v h):
  iw P Γ G w (do eqGuard op t ox oy u v;binOp op t u v) K:=by
 unfold uy at H;split at H
 .rename_i xs ys;unfold QA at H;split at H
  .rename_i l hd;unfold Qz FC at H;simp only at H;split at H
   .rename_i b hb;unfold L8 at hd;split at hd
    .rename_i fs hu;split at hd
     .cases hd
     .rename_i hg;simp only[Bool.or_eq_true,not_or,Bool.not_eq_true]at hg;cases hx with
      |agg l1 v1=>
      rename_i vx;cases hy with
      |agg l2 v2=>
      rename_i vy;have Ik:P.fieldsOf t=fs:=by simp[Program.fieldsOf,hu]
      have he:(Op.equal t (.agg vx) (.agg vy)).run P w= .ok b w:=by rw[Fl,run_equalIn_struct w 9999 t vx vy (by rw[Ik];exact hu) hg.1,Ik];exact QB ⟨l1,v1⟩ ⟨l2,v2⟩ 9998 w fs.toList l hd hb
      have Fi:(eqGuard op t ox oy (.agg vx) (.agg vy)).run P w= .ok () w:=by cases op<;>simp[eqGuard,hg.2]
      cases op<;>simp only at H<;>first
       |exact H.elim
       |exact .pure' hI (by simp only[Sem.run_bind,Fi,Result.andThen_ok,binOp,he,Sem.run_pure]) (.bool _) H
    .cases hd
   .exact H.elim
  unfold Qw at H;split at H
  .rename_i k n hd;obtain⟨hl,H⟩:=H;unfold FC at H;split at H
   .rename_i b hb;obtain⟨e1,e2,e3⟩:=Wj hb;unfold Wi at hd;split at hd
    .rename_i n' e hu;split at hd
     .rename_i k' hk;split at hd
      .rename_i hc;cases hd;simp only[Bool.and_eq_true,Bool.not_eq_true']at hc;obtain⟨⟨⟨c1,c2⟩,c3⟩,c4⟩:=hc;obtain⟨info,aha⟩:=Option.isSome_iff_exists.1 c2;cases hx with
       |agg l1 v1=>
       rename_i vx;cases hy with
       |agg l2 v2=>
       rename_i vy;have sC:∀i,i<xs.length->∃a c,xs[i]? =some (.int k a)/\ys[i]? =some (.int k c)/\vx[i]? =some (.int k a)/\vy[i]? =some (.int k c):=fun i hi=>by obtain⟨a,c,q1,q2⟩:=e2 i hi;obtain⟨u1,p1,r1⟩:=(show b9 G xs vx from⟨l1,v1⟩).get q1;obtain⟨u2,p2,r2⟩:=(show b9 G ys vy from⟨l2,v2⟩).get q2;cases r1;cases r2;exact⟨a,c,q1,q2,p1,p2⟩
       obtain⟨r,hr,Wm⟩:=Wl c1 hk (Nat.eq_of_beq_eq_true c3) 9998 vx vy w (List.range n) fun i hi=>by grind
       have QE:r=b:=by
        rw[Bool.eq_iff_iff,Wm,e3];constructor
        .grind
        grind
       subst QE;have he:(Op.equal t (.agg vx) (.agg vy)).run P w= .ok r w:=by rw[Fl,run_equalIn_array w 9999 vx vy hu aha];exact hr
       have hg:(eqGuard op t ox oy (.agg vx) (.agg vy)).run P w= .ok () w:=by cases op<;>simp[eqGuard,c4]
       cases op<;>simp only at H<;>first
        |exact H.elim
        |exact .pure' hI (by simp only[Sem.run_bind,hg,Result.andThen_ok,binOp,he,Sem.run_pure]) (.bool _) H
      .cases hd
     .cases hd
    .cases hd
   .exact H.elim
  .exact H.elim
 .exact agA hI hx hy H
theorem Wn{op t x y K}(hB:∀{K},su P op t x y K->∃v,K v/\∀K',K' v->su P op t x y K')(H:uy P op t x y K):∃v,K v/\∀K',K' v->uy P op t x y K':=by
 unfold uy at*;split at H
 .unfold QA at*;split at H
  .unfold Qz FC at*;grind
  unfold Qw at*;split at H
  .obtain⟨hl,H⟩:=H;unfold FC at*;grind
  .exact H.elim
 .exact hB H
def bytesOf:List AV->Option (List UInt8)
 |[]=>some []
 | .int .u8 n::r=>(bytesOf r).map fun l=>UInt8.ofNat n.toNat::l
 |_=>none
def QF(r:Option (List UInt8))(K:AV->Prop):Prop:=match r with
 |some l=>K (.str ⟨l.toArray⟩)
 |none=>False
def Wo(P:Program)(s t:TypeId):Bool:=match P.underlying s,P.underlying t with
 |some (.slice e),some .string=>(match P.underlying e with
  |some (.int .u8)=>true
  |_=>false)
 |_,_=>false
def z7(P:Program)(s t:TypeId)(x:AV)(K:AV->Prop):Prop:=match x with
 | .sl rows _=>Wo P s t=true/\QF (bytesOf rows) K
 |x=>wL P s t x K
theorem Wp:∀{rows:List AV} {l:List UInt8},bytesOf rows=some l->rows.length=l.length/\∀(j:Nat) (r:AV),rows[j]? =some r->∃n,r= .int .u8 n/\l[j]? =some (UInt8.ofNat n.toNat)
 |[],l,h=>by simp[bytesOf]at h;subst h;simp
 |x::r,l,h=>by
  unfold bytesOf at h;split at h
  .rename_i e;cases e
  .rename_i n r' e;cases e;obtain⟨l',hl,rfl⟩:=Option.map_eq_some_iff.1 h;obtain⟨h1,h2⟩:=Wp hl;grind
  .cases h
theorem Wq:∀(vs:List Value) (l:List UInt8) (s:ByteArray) (w:World),vs.length=l.length->(∀(j:Nat) (v:Value) (b:UInt8),vs[j]? =some v->l[j]? =some b->∃n:Int,v= .int .u8 n/\b=UInt8.ofNat n.toNat)->
  (forIn vs s fun(c:Value) (s:ByteArray)=>(match c with
   | .int .u8 n=>pure (ForInStep.yield (s.push (UInt8.ofNat n.toNat)))
   |_=>do
    let r<-(stuck "bytesToString: byte expected":Sem PUnit)
    pure (ForInStep.yield s)):Sem ByteArray).run P w= .ok ⟨s.data++l.toArray⟩ w
 |[],[],s,w,_,_=>by simp
 |v::vs,b::l,s,w,hl,hv=>by obtain⟨n,rfl,rfl⟩:=hv 0 v b rfl rfl;have ih:=Wq vs l (s.push (UInt8.ofNat n.toNat)) w (by simpa using hl) (fun j v b e e'=>hv (j+1) v b (by simpa using e) (by simpa using e'));simp_all
 |[],_::_,_,_,h,_=>by simp at h
 |_::_,[],_,_,h,_=>by simp at h
theorem ahb(hI:Inv Γ G h w){src dst x u}(hx:VR G x u){K}(H:z7 P src dst x fun v=>K v h):iw P Γ G w (convert src dst u) K:=by
 unfold z7 at H;split at H
 .rename_i rows own;obtain⟨ht,H⟩:=H;unfold QF at H;split at H
  .rename_i l hl;obtain⟨h1,h2⟩:=Wp hl;unfold Wo at ht;split at ht
   .rename_i e hs hd;split at ht
    .rename_i he;have Di:=hx;cases hx with
     |sl vals jc iT cj hF hv cP=>
      rename_i a cap sz;have gw:∀r∈rows,r.cells.length=1:=fun r hr=>by obtain⟨j,hj⟩:=List.getElem?_of_mem hr;obtain⟨n,rfl,_⟩:=h2 j r hj;rfl
      obtain⟨olds,o1,o2,o3⟩:=Di.LX (P:=P) hI gw;have Df:flat rows=rows:=by
       have:∀(l:List AV),(∀r∈l,∃n,r=AV.int .u8 n)->flat l=l:=fun l=>by
        induction l with
        |nil=>intro _;rfl
        |cons r l ih=>
         intro hr;obtain⟨n,rfl⟩:=hr r (List.mem_cons_self ..);simp only[flat,List.flatMap_cons,AV.cells]at ih|-;grind
       exact this rows fun r hr=>by obtain⟨j,hj⟩:=List.getElem?_of_mem hr;grind
      have ahd:∀(j:Nat) (v:Value) (b:UInt8),olds[j]? =some v->l[j]? =some b->∃n:Int,v= .int .u8 n/\b=UInt8.ofNat n.toNat:=fun j v b e e'=>by
       have hj:j<rows.length:=by have:=(List.getElem?_eq_some_iff.1 e').1;omega
       obtain⟨n,hn,hb⟩:=h2 j _ (List.getElem?_eq_getElem hj);obtain⟨v',q1,q2⟩:=o2.get (j:=j) (c:= .int .u8 n) (by grind);have:olds[j]? =some v':=by simpa using q1
       rw[e]at this;cases this;rw[e']at hb;exact⟨n,q2.Dk,Option.some.inj hb⟩
      refine .pure' hI (u:= .string ⟨l.toArray⟩) ?_ (.str _) H;have o4:=o3 w rfl;cases a with
      |none=>
       have hz:rows.length=0:=by have:=iT rfl;omega
       have:l=[]:=List.length_eq_zero_iff.1 (by omega);subst this;simp[convert,run_underlying hs,run_underlying hd,run_underlying he,Conv.bytesToString];rfl
      |some ad=>
       simp only[Builtin.firstCells,Nat.mul_one]at o4;have hp:=Wq (P:=P) olds l ByteArray.empty w (by rw[o1,Nat.mul_one,h1]) ahd;simp only[convert,Sem.run_bind,run_underlying hs,run_underlying hd,run_underlying he,Result.andThen_ok,Conv.bytesToString,o4];rw[List.forIn_toArray];erw [hp];simp_all
    .cases ht
   .cases ht
  .exact H.elim
 .exact agC hI hx H
theorem Wt{s t x K}(hB:∀{K},wL P s t x K->∃v,K v/\∀K',K' v->wL P s t x K')(H:z7 P s t x K):∃v,K v/\∀K',K' v->z7 P s t x K':=by
 unfold z7 at*;split at H
 .obtain⟨ht,H⟩:=H;unfold QF at*;grind
 .exact hB H
def tB(P:Program)(t:TypeId):Option (Nat×Nat):=match P.underlying t with
 |some (.array n e)=>(dA P e).map fun s=>(n,s)
 |_=>none
def Dt(d:Option (Nat×Nat))(x:AV)(K:AV->Prop):Prop:=match d,x with
 |some (n,s),.ptr (some (i,o))=>K (.ms i o n n s)
 |some (n,s),.bS cs=>cs.length=n/\s=1/\(∀c∈cs,c.one=true)/\K (.sl cs .free)
 |_,_=>False
def wU(P:Program)(t:TypeId)(x:AV)(lo hi mx:Option AV)(K:AV->Prop):Prop:=match x,lo,hi,mx with
 | .ptr a,none,none,none=>Dt (tB P t) (.ptr a) K
 | .bS cs,none,none,none=>Dt (tB P t) (.bS cs) K
 |x,lo,hi,mx=>uv P t x lo hi mx K
theorem QG{c:AV}(h:c.one=true):c.cells=[c]:=by cases c<;>first|rfl|simp[AV.one]at h
theorem Wu(hI:Inv Γ G h w){t x v}(hx:VR G x v){K}(H:Dt (tB P t) x fun v=>K v h):iw P Γ G w (Instr.sliceAt t v none none none) K:=by
 unfold Dt at H;split at H
 .rename_i n s i o hd;unfold tB at hd;split at hd
  .rename_i n' e hu;obtain⟨s',hs,e1⟩:=Option.map_eq_some_iff.1 hd;cases e1;cases hx with
   |ptr hb=>
    refine .pure' hI (u:= .slice (some ⟨_,o,none⟩) n n) ?_ (.ms hb) H;simp[Instr.sliceAt,run_underlying hu,Instr.sureAddr,Instr.sliceBounds,o8 hs,Addr.add]
  .cases hd
 .rename_i n s cs hd;obtain⟨hl,rfl,wK,H⟩:=H;unfold tB at hd;split at hd
  .rename_i n' e hu;obtain⟨s',hs,e1⟩:=Option.map_eq_some_iff.1 hd;cases e1;cases hx with
   |bS vals hF hv=>
    rename_i b o;refine .pure' hI (u:= .slice (some ⟨b,o,none⟩) n n) ?_ ?_ H
    .simp[Instr.sliceAt,run_underlying hu,Instr.sureAddr,Instr.sliceBounds,o8 hs,Addr.add]
    .rw[<-hl];refine .sl (sz:=1) (fun k _=>vals k) (Nat.le_refl _) (fun e=>by cases e) (fun k r hr=>by rw[QG (wK r (List.mem_of_getElem? hr))];rfl) (fun k r j c hr hc=>?_) (fun k r j c hr hc=>?_) trivial
     .rw[QG (wK r (List.mem_of_getElem? hr))]at hc;grind
     .rw[QG (wK r (List.mem_of_getElem? hr))]at hc;grind
  .cases hd
 .exact H.elim
theorem ahe(hI:Inv Γ G h w){t x v lo hi mx ul uh um}(hx:VR G x v)(h1:vK G lo ul)(h2:vK G hi uh)(h3:vK G mx um){K}
  (H:wU P t x lo hi mx fun v=>K v h):iw P Γ G w (Instr.sliceAt t v ul uh um) K:=by
 unfold wU at H;split at H
 .cases ul with
  |some _=>exact h1.elim
  |none=>cases uh with
   |some _=>exact h2.elim
   |none=>cases um with
    |some _=>exact h3.elim
    |none=>exact Wu hI hx H
 .cases ul with
  |some _=>exact h1.elim
  |none=>cases uh with
   |some _=>exact h2.elim
   |none=>cases um with
    |some _=>exact h3.elim
    |none=>exact Wu hI hx H
 .exact agZ hI hx h1 h2 h3 H
theorem Wv{t x lo hi mx K}(hB:∀{K},uv P t x lo hi mx K->∃v,K v/\∀K',K' v->uv P t x lo hi mx K')(H:wU P t x lo hi mx K):
  ∃v,K v/\∀K',K' v->wU P t x lo hi mx K':=by
 have hA:∀{y:AV} {K:AV->Prop},Dt (tB P t) y K->∃v,K v/\∀K':AV->Prop,K' v->Dt (tB P t) y K':=fun {y K} H=>by unfold Dt at*;grind
 unfold wU at*;grind
theorem ahf{x y K}(H:FB x y K):∃v,K v/\∀K',K' v->FB x y K':=by unfold FB at*;grind
theorem ahg{x y K}(H:z6 x y K):∃v,K v/\∀K',K' v->z6 x y K':=by unfold z6 at*;grind
end
section
variable {P:Program} {Γ:GG} {G:Gh} {h:AH} {w:World} {N:Nat} {σ:Tm}
def kL(k:Nat)(z:List AV):List AV:=(List.replicate k z).flatten
theorem QH(k z):(kL k z).length=k*z.length:=by
 induction k with
 |zero=>simp[kL]
 |succ k ih=>simp only[kL,List.replicate_succ,List.flatten_cons,List.length_append]at ih|-;rw[ih,Nat.succ_mul];omega
theorem Ww(z:List AV)(hz:z≠[]):∀(k j:Nat),j<k*z.length->(kL k z)[j]? =z[j%z.length]?
 |0,j,h=>by simp at h
 |k+1,j,h=>by
  have hl:0<z.length:=List.length_pos_iff.2 hz;simp only[kL,List.replicate_succ,List.flatten_cons];by_cases hj:j<z.length
  .rw[List.getElem?_append_left hj,Nat.mod_eq_of_lt hj]
  .rw[List.getElem?_append_right (by omega)];have h':j<k*z.length+z.length:=by rw[<-Nat.succ_mul];exact h
   have:=Ww z hz k (j-z.length) (by omega);rw[kL]at this;rw[this,show j%z.length=(j-z.length)%z.length from Nat.mod_eq_sub_mod (by omega)]
theorem ahh(k z):kL k [z]=List.replicate k z:=by
 induction k with
 |zero=>rfl
 |succ k ih=>simp only[kL,List.replicate_succ,List.flatten_cons]at ih|-;rw[ih];rfl
theorem Wx(k)(zc:Array Value)(hz:zc.size≠0):b9 G (kL k (zc.toList.map oG)) ((Array.range (k*zc.size)).map (zc[·%zc.size]!)):=by
 have cV:zc.toList.map oG≠[]:=fun e=>hz (by simp_all);have hlen:(zc.toList.map oG).length=zc.size:=by simp
 refine b9.rn (by simp[QH]) fun j c v e e'=>?_;have hj:j<k*zc.size:=by have:=(List.getElem?_eq_some_iff.1 e).1;rwa [QH,hlen]at this
 rw[Ww _ cV k j (by rwa [hlen]),hlen]at e;obtain⟨u,k1,k2⟩:=(zN G zc).get e;grind
def tC(P:Program)(t:TypeId)(l c:AV)(h:AH)(K:AV->AH->Prop):Prop:=
 match P.underlying t with
 |some (.slice e)=>(match dA P e,tt P e,jy P e with
  |some n,some by_,some z=>(match l,c with
   | .int _ l,.int _ c=>n≠0/\z.cells.size=n/\0<=l/\l<=c/\c<=9223372036854775807/\c*by_<=140737488355328/\K (.ms h.length 0 l.toNat c.toNat n) (h++[.row (kL c.toNat (z.cells.toList.map oG)) e])
   |_,_=>False)
  |_,_,_=>False)
 |_=>False
theorem ahi(hI:Inv Γ G h w){t l c u v}(hl:VR G l u)(hc:VR G c v){K}(H:tC P t l c h K):iw P Γ G w (Instr.makeSlice t u v) K:=by
 unfold tC at H;split at H
 .rename_i e ht;split at H
  .rename_i n by_ z hn hb hz;split at H
   .rename_i kl l kc c;obtain⟨h0,BG,h1,h2,h3,h4,H⟩:=H;cases hl;cases hc;obtain⟨l,rfl⟩:=Int.eq_ofNat_of_zero_le h1;obtain⟨c,rfl⟩:=Int.eq_ofNat_of_zero_le (Int.le_trans h1 h2);simp only[Int.toNat_natCast]at H;obtain⟨i,hi⟩:∃i,P.info? e=some i:=by unfold dA at hn;cases hi:P.info? e with
     |none=>simp[hi]at hn
     |some i=>exact⟨i,rfl⟩
    have Fu:i.size=n:=by simpa [dA,hi]using hn
    have Fv:i.bytes=by_:=by simpa [tt,hi]using hb
    have H_:i.zero=some z:=by simpa [jy,hi]using hz
    subst Fu Fv;have w1:IntKind.i64.wrap (l:Int)=l:=IntWalk.i64_in _ ⟨by omega,by omega⟩;have w2:IntKind.i64.wrap (c:Int)=c:=IntWalk.i64_in _ ⟨by omega,by omega⟩
    have h4':c*i.bytes<=140737488355328:=by have h5:((c*i.bytes:Nat):Int)<=140737488355328:=by rw[Int.natCast_mul];exact h4
                                            omega
    have fI:¬((281474976710656:Int)<(i.bytes:Int)*(c:Int)):=by rw[Int.mul_comm];omega
    have z8:¬(c<l):=by omega
    have L9:¬(140737488355328<c*i.bytes):=by omega
    have jf:(Instr.makeSlice t (.int kl l) (.int kc c)).run P w= .ok (.slice (some ⟨w.heap.size,0,none⟩) l c) (w.alloc (.cells ((Array.range (c*i.size)).map (z.cells[·%z.cells.size]!)) e)):=by
     by_cases De:c=0
     .have pM:l=0:=by omega
      subst De pM;have w0:IntKind.i64.wrap 0=0:=by decide
      simp[Instr.makeSlice,run_underlying ht,asInt,asIntOf,sizeOf,typeInfo,hi,w0,askRoom,roomBytes,newRow];grind
     .have nB:¬(c*i.size=0):=by rw[Nat.mul_eq_zero];omega
      simp[Instr.makeSlice,run_underlying ht,asInt,asIntOf,sizeOf,typeInfo,zeroValue,hi,H_,w1,w2,z8,fI,askRoom,roomBytes,newRow];rw[if_neg (by omega),if_neg nB]
    refine⟨_,_,_,_,_,jf,hI.uk _,Fj hI (t:=e) (by rw[<-BG];exact Wx c z.cells (by omega)),.ms (Gh.add_same _ _ _),H⟩
   .exact H.elim
  .exact H.elim
 .exact H.elim
def Du(P:Program)(t:TypeId)(x:AV)(h:AH)(K:AV->AH->Prop):Prop:=
 match P.underlying t,x with
 |some (.slice e),.sl [] _=>K (.tuple []) h
 |some (.slice e),.ms i off len _ sz=>(match dA P e,jy P e,h[i]? with
  |some n,some z,some (.row cs T)=>n=sz/\n≠0/\z.cells.size=n/\(∀c∈z.cells.toList,c.oneCell'=true)/\off+len*n<=cs.length/\K (.tuple []) (h.set i (.row (iU cs off (kL len (z.cells.toList.map oG))) T))
  |_,_,_=>False)
 |_,_=>False
theorem Inv.putRow(hI:Inv Γ G h w){i cs xs T}(gw:h[i]? =some (.row cs T)){o}(ss:o+xs.length<=cs.length){news}(hv:b9 G xs news.toArray){b vals}
  (h1:G.ρ i=some b)(h2:w.heap[b]? =some (.cells vals T (0,0)))(h3:b9 G cs vals):
  Inv Γ G (h.set i (.row (iU cs o xs) T)) (w.setRow b (vals.toList.take o++news++vals.toList.drop (o+news.length)).toArray):=by
 have lb:=setRow_heap w b vals (vals.toList.take o++news++vals.toList.drop (o+news.length)).toArray T (0,0) h2;refine hI.write (w':=w.setRow b (vals.toList.take o++news++vals.toList.drop (o+news.length)).toArray) h1 (by simp[World.setRow]) rfl rfl rfl (fun k ng=>Qc w b k _ ng) _ ?_ ?_ (by rw[h2];simp) (by rw[gw];simp)
 .exact⟨b,_,h1,lb,by simpa using h3.iU hv ss⟩
 .intro D hD;obtain⟨l,k1,_⟩:=hI.lp b D hD;rw[h2]at k1;cases k1
theorem ahk(hI:Inv Γ G h w){t ty x u}(hx:VR G x u){K}(H:Du P t x h K):iw P Γ G w (Builtin.clear_ #[t] ty #[u]) K:=by
 have L_:VR G (.tuple []) (.tuple #[]):= .tuple rfl (fun j c e=>by simp at e);unfold Du at H;split at H
 .rename_i e own ht;cases hx with
  |sl vals jc iT cj hF hv cP=>
   rename_i a cap sz;cases a with
   |none=>exact .pure' hI (by simp[Builtin.clear_,run_underlying ht]) L_ H
   |some a=>exact .pure' hI (by simp[Builtin.clear_,run_underlying ht]) L_ H
 .rename_i e i off len cap sz ht;split at H
  .rename_i n z cs T hn hz gw;obtain⟨rfl,h0,BG,wK,ss,H⟩:=H;obtain⟨b,vals,h1,h2,h3⟩:=hI.row gw;cases hx with
   |ms hb=>
    rw[h1]at hb;cases hb;have Wz:b9 G (kL len (z.cells.toList.map oG)) (Builtin.zeroCells z.cells len):=Wx len z.cells (by omega);have Il:(kL len (z.cells.toList.map oG)).length=len*n:=by rw[QH];simp[BG]
    by_cases pM:len=0
    .subst pM;have e0:iU cs off (kL 0 (z.cells.toList.map oG))=cs:=by simp[kL,iU]
     rw[e0]at H;have pN:h.set i (.row cs T)=h:=by
      apply List.ext_getElem?;intro j;rw[List.getElem?_set];split
      .grind
      .rfl
     rw[pN]at H;exact .pure' hI (by simp[Builtin.clear_,run_underlying ht]) L_ H
    .have ahl:∀v∈(Builtin.zeroCells z.cells len).toList,v.oneCell'=true:=fun v hv=>by simp only[Builtin.zeroCells,Array.toList_map,List.mem_map]at hv;obtain⟨q,_,rfl⟩:=hv;have hm:q%z.cells.size<z.cells.size:=Nat.mod_lt _ (by omega);refine wK _ ?_;simp[hm]
     have fC:=run_storeCells_at P b off T (Builtin.zeroCells z.cells len).toList 0 vals w h2 (by have:=h3.1;have:=Wz.1;simp only[Array.length_toList];omega) ahl;simp only[Nat.add_zero]at fC;refine⟨_,_,G,_,_,?_,Gh.le.refl G,hI.putRow gw (by rw[Il];exact ss) (news:=(Builtin.zeroCells z.cells len).toList) (by simpa using Wz) h1 h2 h3,L_,H⟩;have hs:(storeCells ⟨b,off,none⟩ (Builtin.zeroCells z.cells len).toList).run P w=_:=fC;have hm:∀{α:Type} (A B C:Sem α),(match(Value.slice (some ⟨b,off,none⟩) len cap)with
      | .slice _ 0 _=>A
      |_=>B)=B:=fun A B C=>by grind
     cases len with
     |zero=>exact absurd rfl pM
     |succ k=>simp[Builtin.clear_,run_underlying ht,vB hz,hs]
  .exact H.elim
 .exact H.elim
def Dv(P:Program)(t:TypeId)(x:AV)(h:AH)(K:AV->AH->Prop):Prop:=
 match P.underlying t,x with
 |some (.map _ _),.map none=>K (.ptr (some (h.length,0))) (h++[.iter none 0 []])
 |some (.map _ _),.map (some m)=>(match h[m]? with
  |some (.map _ clk)=>K (.ptr (some (h.length,0))) (h++[.iter (some m) clk []])
  |_=>False)
 |_,_=>False
theorem ahm(hI:Inv Γ G h w){t x u}(hx:VR G x u){K}(H:Dv P t x h K):iw P Γ G w (Instr.range t u) K:=by
 unfold Dv at H;split at H
 .rename_i kt et ht;cases hx;refine⟨.pointer (some ⟨w.heap.size,0,none⟩),w.alloc (.mapIter none 0 #[] 0),G.add h.length w.heap.size,_,_,by simp[Instr.range,run_underlying ht,newObj,Sem.run],hI.uk _,hI.alloc _ (.iter none 0 []) ⟨w.heap.size,none,Gh.add_same _ _ _,heap_alloc_new w _,rfl⟩,.ptr (Gh.add_same _ _ _),H⟩
 .rename_i kt et m ht;split at H
  .rename_i cB clk hm;obtain⟨b,es,k1,k2,k3,k4⟩:=hI.obj m _ hm;cases hx with
   |map hb=>
    rw[k1]at hb;cases hb;refine⟨.pointer (some ⟨w.heap.size,0,none⟩),w.alloc (.mapIter (some b) clk #[] clk),G.add h.length w.heap.size,_,_,by simp[Instr.range,run_underlying ht,newObj,run_getObj_map _ _ _ _ k2,Sem.run],hI.uk _,
     hI.alloc _ (.iter (some m) clk []) ⟨w.heap.size,some b,Gh.add_same _ _ _,heap_alloc_new w _,b,rfl,(hI.uk _).ρ _ _ k1⟩,.ptr (Gh.add_same _ _ _),H⟩
  .exact H.elim
 .exact H.elim
def QI(it:AV)(h:AH)(K:AV->AH->Prop):Prop:=match it with
 | .ptr (some (i,0))=>(match h[i]? with
  |some (.iter none _ _)=>K (.tuple [.bool false]) h
  |some (.iter (some m) clk seen)=>(match h[m]? with
   |some (.map cB wV)=>wV=clk/\(∀e∈cB,e.1<clk)/\((∀e∈cB,e.1∈seen)->K (.tuple [.bool false]) h)/\∀e∈cB,e.1∉seen->K (.tuple [.bool true,e.2.1,e.2.2]) (h.set i (.iter (some m) clk (seen++[e.1])))
   |_=>False)
  |_=>False)
 |_=>False
theorem VR.WA{x u}(hx:VR G x u):VR G (.tuple [x]) (.tuple #[u]):= .tuple rfl (fun j c e=>by
 cases j with
 |zero=>simp at e;subst e;exact hx
 |succ j=>simp at e)
theorem VR.ahn{x y u v}(hx:VR G x u)(hy:VR G y v):VR G (.tuple [x,y]) (.tuple #[u,v]):= .tuple rfl (fun j c e=>by
 match j with
 |0=>simp at e;subst e;exact hx
 |1=>simp at e;subst e;exact hy
 |j+2=>simp at e)
theorem VR.aho{x y z u v r}(hx:VR G x u)(hy:VR G y v)(hz:VR G z r):VR G (.tuple [x,y,z]) (.tuple #[u,v,r]):= .tuple rfl (fun j c e=>by
 match j with
 |0=>simp at e;subst e;exact hx
 |1=>simp at e;subst e;exact hy
 |2=>simp at e;subst e;exact hz
 |j+3=>simp at e)
theorem Inv.setIter(hI:Inv Γ G h w){i b:Nat}(hb:G.ρ i=some b){m0:Option Nat}{s0 c0:Nat}{q0:Array Nat}(hw:w.heap[b]? =some (.mapIter m0 s0 q0 c0)){m:Option Nat}{clk:Nat}{seen:List Nat}{mb:Option Nat}
  (hm:match m with
   |none=>mb=none
   |some j=>∃c,mb=some c/\G.ρ j=some c)(uo:h[i]? ≠some .frozen):Inv Γ G (h.set i (.iter m clk seen)) (w.putObj b (.mapIter mb clk seen.toArray clk)):=by
 have dN:=uj hw;have lb:(w.putObj b (.mapIter mb clk seen.toArray clk)).heap[b]? =some (.mapIter mb clk seen.toArray clk):=by simp[World.putObj,dN]
 refine hI.write (w':=w.putObj b (.mapIter mb clk seen.toArray clk)) hb (by simp[World.putObj]) rfl rfl rfl (fun k hk=>World.putObj_heap_other hk) _ ⟨b,mb,hb,lb,hm⟩ (fun D hD=>?_) (by rw[hw];simp) uo;obtain⟨l,e1,_⟩:=hI.lp b D hD;rw[hw]at e1;cases e1
theorem ahp(hI:Inv Γ G h w){it u ty}(hx:VR G it u){K}(H:QI it h K):iw P Γ G w (Instr.next u false ty) K:=by
 unfold QI at H;split at H
 .rename_i i;cases hx with
  |ptr hb=>
  rename_i r;split at H
  .rename_i clk seen hi;obtain⟨b,mb,k1,k2,k3⟩:=hI.obj i _ hi;rw[k1]at hb;cases hb;simp only at k3;subst k3;exact .pure' hI (by simp[Instr.next,getObj,Sem.run,k2]) (VR.WA (.bool false)) H
  .rename_i m clk seen hi;obtain⟨b,mb,k1,k2,k3⟩:=hI.obj i _ hi;rw[k1]at hb;cases hb;obtain⟨bm,rfl,k4⟩:=k3;split at H
   .rename_i cB wV hm;obtain⟨rfl,hold,H0,H1⟩:=H;obtain⟨bm',es,m1,m2,m3,m4⟩:=hI.obj m _ hm;rw[k4]at m1;cases m1;have ahr:∀x∈es.toList,∃e∈cB,e.1=x.born/\VR G e.2.1 x.key/\VR G e.2.2 x.val:=fun x hx=>by obtain⟨j,hj,Aa⟩:=List.mem_iff_getElem.1 hx;obtain⟨e,he⟩:∃e,cB[j]? =some e:=⟨_,List.getElem?_eq_getElem (by rw[m3];simpa using hj)⟩;obtain⟨q1,q2,q3⟩:=m4 j e x he (by grind);grind
    have auD:∀e∈cB,∃x∈es.toList,x.born=e.1:=fun e he=>by obtain⟨j,hj⟩:=List.mem_iff_getElem?.1 he;have BM:=(List.getElem?_eq_some_iff.1 hj).1;exact⟨es[j],by simp,(m4 j e _ hj (Array.getElem?_eq_getElem (by omega))).1⟩
    have nk:∀x,x∈(leftOf es seen.toArray).toList<->x∈es.toList/\x.born∉seen:=fun x=>by simp[leftOf]
    rcases run_next_at (P:=P) w ty _ bm wV wV seen.toArray es wV k2 m2 (fun x hx=>by grind) (Nat.le_refl _)with⟨hs,jf⟩|⟨x,hx,w1,Ab,jf⟩
    .refine .pure' hI jf (VR.WA (.bool false)) (H0 fun e he=>?_);grind
    .obtain⟨x1,x2⟩:=(nk x).1 hx;obtain⟨e,he,q1,q2,q3⟩:=ahr x x1;have Ad:Inv Γ G h w1:=by rcases Ab with rfl|rfl<;>first|exact hI|exact hI.drew
     have k2':w1.heap[r]? =some (Obj.mapIter (some bm) wV seen.toArray wV):=by rcases Ab with rfl|rfl<;>exact k2
     have Ae:=Ad.setIter k1 k2' (m:=some m) (clk:=wV) (seen:=seen++[e.1]) (mb:=some bm) ⟨bm,rfl,k4⟩ (by rw[hi];simp);refine⟨_,_,G,_,_,jf,Gh.le.refl G,?_,VR.aho (.bool true) q2 q3,H1 e he (by rw[q1];exact x2)⟩;have:(seen++[e.1]).toArray=seen.toArray.push x.born:=by rw[q1];simp
     rw[this]at Ae;exact Ae
   .exact H.elim
  .exact H.elim
 .exact H.elim
def FD(it:AV)(h:AH)(K:AV->Prop):Prop:=match it with
 | .ptr (some (i,0))=>(match h[i]? with
  |some (.iter (some m) clk seen)=>(match h[m]?,seen.getLast? with
   |some (.map cB wV),some s=>wV=clk/\(match cB.find? (·.1==s)with
    |some e=>K (.tuple [e.2.1,e.2.2])
    |none=>False)
   |_,_=>False)
  |_=>False)
 |_=>False
theorem Io:∀(cB:List (Nat×AV×AV)) (es:List MapEntry),cB.length=es.length->(∀(j:Nat) (e:Nat×AV×AV) (x:MapEntry),cB[j]? =some e->es[j]? =some x->x.born=e.1/\VR G e.2.1 x.key/\VR G e.2.2 x.val)->
  ∀{s:Nat} {e:Nat×AV×AV},cB.find? (·.1==s)=some e->∃x,es.find? (·.born==s)=some x/\VR G e.2.1 x.key/\VR G e.2.2 x.val
 |[],_,_,_,_,_,h=>by simp at h
 |a::cB,[],hl,_,_,_,_=>by simp at hl
 |a::cB,y::es,hl,hv,s,e,h=>by
  obtain⟨h1,h2,h3⟩:=hv 0 a y rfl rfl;rw[List.find?_cons]at h|-;rw[h1];split at h
  .grind
  .exact Io cB es (by simpa using hl) (fun j e x he hx=>hv (j+1) e x (by simpa using he) (by simpa using hx)) h
theorem aht(hI:Inv Γ G h w){it u}(hx:VR G it u){K}(H:FD it h fun v=>K v h):iw P Γ G w (Instr.entry u) K:=by
 unfold FD at H;split at H
 .rename_i i;cases hx with
  |ptr hb=>
  split at H
  .rename_i m clk seen hi;obtain⟨b,mb,k1,k2,k3⟩:=hI.obj i _ hi;rw[k1]at hb;cases hb;obtain⟨bm,rfl,k4⟩:=k3;split at H
   .rename_i cB wV s hm hs;obtain⟨rfl,H⟩:=H;obtain⟨bm',es,m1,m2,m3,m4⟩:=hI.obj m _ hm;rw[k4]at m1;cases m1;split at H
    .rename_i e he;obtain⟨x,q1,q2,q3⟩:=Io (G:=G) cB es.toList (by simpa using m3) (fun j e x he hx=>m4 j e x he (by simpa using hx)) he;rw[Array.find?_toList]at q1;have BI:seen.toArray.back?=some s:=by simpa using hs
     refine .pure' hI ?_ (VR.ahn q2 q3) H;simp only[Instr.entry,getObj,Sem.run_bind,Sem.run,k2,m2,Result.andThen,BI,bne_self_eq_false,Bool.false_eq_true,if_false,q1];rfl
    .exact H.elim
   .exact H.elim
  .exact H.elim
 .exact H.elim
def Af(P:Program)(t:TypeId)(x i:AV)(K:AV->Prop):Prop:=
 match P.underlying t,x,i with
 |some .string,.str s,.int _ n=>0<=n/\∃b,s[n.toNat]? =some b/\K (.int .u8 b.toNat)
 |some (.array len e),.agg cs,.int _ n=>0<=n/\n<len/\(match dA P e with
  |some s=>rz P e (cs.drop (n.toNat*s)) K
  |none=>False)
 |_,_,_=>False
theorem ahu(hI:Inv Γ G h w){t x i u v}(hx:VR G x u)(hi:VR G i v){K}(H:Af P t x i fun v=>K v h):iw P Γ G w (Instr.index t u v) K:=by
 unfold Af at H;split at H
 .rename_i s k n ht;obtain⟨h1,b,h2,H⟩:=H;cases hx;cases hi;exact .pure' hI (by simp[Instr.index,run_underlying ht,asIntOf,h1,h2]) (.int _ _) H
 .rename_i len e cs k n ht;obtain⟨h1,h2,H⟩:=H;split at H
  .rename_i s hs;cases hx with
   |agg hl hv=>
    cases hi;obtain⟨u,av,r,oa,hk⟩:=V7 (P:=P) ⟨hl,hv⟩ (n.toNat*s) H w;exact⟨u,w,G,av,h,by simp[Instr.index,run_underlying ht,asIntOf,h1,h2,o8 hs,r],Gh.le.refl G,hI,oa,hk⟩
  .exact H.elim
 .exact H.elim
def yB:Operand->Bool
 | .const (.slice none 0 0)=>true
 |_=>false
def BN(P:Program)(t:TypeId)(op:BinOp)(x:AV)(K:AV->Prop):Prop:=
 match P.underlying t,op,x with
 |some (.slice _),.eql,.sl rows _=>(rows=[]->K (.bool true))/\K (.bool false)
 |some (.slice _),.neq,.sl rows _=>(rows=[]->K (.bool false))/\K (.bool true)
 |some (.slice _),.eql,.ms .. =>K (.bool false)
 |some (.slice _),.neq,.ms .. =>K (.bool true)
 |_,_,_=>False
theorem ahv{op t ox oy a n c v e}(ht:P.underlying t=some (.slice e)):(eqGuard op t ox oy (.slice a n c) v).run P w= .ok () w:=by cases op<;>simp[eqGuard]
theorem ahw(d){t e a n c}(ht:P.underlying t=some (.slice e))(w):(Op.equalIn (d+1) t (.slice a n c) (.slice none 0 0)).run P w= .ok a.isNone w:=by cases a<;>simp only[Op.equalIn,Sem.run_bind,run_underlying ht,Result.andThen_ok,Sem.run_pure,Option.isNone]
theorem ahx(hI:Inv Γ G h w){op t ox oy x u}(hx:VR G x u){K}(H:BN P t op x fun v=>K v h):
  iw P Γ G w (do eqGuard op t ox oy u (.slice none 0 0);binOp op t u (.slice none 0 0)) K:=by
 have he:∀(a:Option Addr) (n c:Nat) (e:TypeId),P.underlying t=some (.slice e)->(Op.equal t (.slice a n c) (.slice none 0 0)).run P w= .ok a.isNone w:=fun a n c e ht=>by rw[Fl];exact ahw 9999 ht w
 have key:∀(a:Option Addr) (n c:Nat) (e:TypeId),P.underlying t=some (.slice e)->(op= .eql\/op= .neq)->
   (do eqGuard op t ox oy (.slice a n c) (.slice none 0 0);binOp op t (.slice a n c) (.slice none 0 0):Sem Value).run P w= .ok (.bool (if op= .eql then a.isNone else !a.isNone)) w:=fun a n c e ht ho=>by
  rcases ho with rfl|rfl<;>simp[ahv (P:=P) (w:=w) ht,binOp,he a n c e ht]
 unfold BN at H;split at H
 .rename_i e rows own ht;cases hx with
  |sl vals jc iT cj hF hv cP=>
   rename_i a cap sz;cases a with
   |none=>
    have hr:rows=[]:=List.eq_nil_of_length_eq_zero (by have:=iT rfl;omega);exact .pure' hI (key none _ _ e ht (.inl rfl)) (.bool true) (H.1 hr)
   |some a=>exact .pure' hI (key (some a) _ _ e ht (.inl rfl)) (.bool false) H.2
 .rename_i e rows own ht;cases hx with
  |sl vals jc iT cj hF hv cP=>
   rename_i a cap sz;cases a with
   |none=>
    have hr:rows=[]:=List.eq_nil_of_length_eq_zero (by have:=iT rfl;omega);exact .pure' hI (key none _ _ e ht (.inr rfl)) (.bool false) (H.1 hr)
   |some a=>exact .pure' hI (key (some a) _ _ e ht (.inr rfl)) (.bool true) H.2
 .rename_i e _ _ _ _ _ ht;cases hx with
  |ms hb=>exact .pure' hI (key _ _ _ e ht (.inl rfl)) (.bool false) H
 .rename_i e _ _ _ _ _ ht;cases hx with
  |ms hb=>exact .pure' hI (key _ _ _ e ht (.inr rfl)) (.bool true) H
 .exact H.elim
def wW(P:Program)(t u:TypeId)(s x:AV)(h:AH)(K:AV->AH->Prop):Prop:=
 match P.underlying t,P.underlying u with
 |some _,some (.int _)=>False
 |some (.slice e),some _=>(match dA P e,tt P e,jy P e with
  |some n,some by_,some z=>n≠0/\z.cells.size=n/\∃xs,qi x h xs/\db n xs/\
    (match s with
     | .sl [] .full=>xs.length<=9223372036854775807/\xs.length*by_<=140737488355328/\(xs=[]->K s h)/\(xs≠[]->∀c,xs.length<=c->K (.ms h.length 0 xs.length c n) (h++[.row (flat xs++List.replicate ((c-xs.length)*n) .top) e]))
     | .ms i off len cap sz=>sz=n/\len+xs.length<=9223372036854775807/\(len+xs.length)*by_<=140737488355328/\len<=cap/\(match h[i]? with
      |some (.row cs T)=>off+cap*n<=cs.length/\(len+xs.length<=cap->K (.ms i off (len+xs.length) cap n) (h.set i (.row (iU cs (off+len*n) (flat xs)) T)))/\
       (cap<len+xs.length->∀c,len+xs.length<=c->K (.ms h.length 0 (len+xs.length) c n) (h++[.row ((cs.drop off).take (len*n)++flat xs++List.replicate ((c-(len+xs.length))*n) .top) e]))
      |_=>False)
     |_=>False)
  |_,_,_=>False)
 |_,_=>False
theorem b9.WB(G a){k}(hk:a.size=k):b9 G (List.replicate k .top) a:=⟨by simp[hk],fun j c e=>by
 rw[List.getElem?_replicate]at e;split at e
 .cases e;exact .top _
 .cases e⟩
theorem ahy(hI:Inv Γ G h w){t u ty s x vs vx}(hs:VR G s vs)(hx:VR G x vx){K}(H:wW P t u s x h K):
  iw P Γ G w (Builtin.append_ #[t,u] ty #[vs,vx]) K:=by
 unfold wW at H;split at H
 .exact H.elim
 .rename_i e d hd ht hu;split at H
  .rename_i n by_ z hn hb hz;obtain⟨h0,BG,xs,tv,zT,H⟩:=H;obtain⟨news,q1,q2,q3,q4⟩:=Qh (P:=P) hI hx tv h0 zT;have qg:(flat xs).length=xs.length*n:=wM (fun r hr=>(zT r hr).1);have Ia:∀v∈news,v.oneCell'=true:=by
    have:=q2.P_ (fun c hc=>by simp only[flat,List.mem_flatMap]at hc;obtain⟨r,hr,hc⟩:=hc;exact(zT r hr).2 c hc)
    simpa using this
   split at H
   .obtain⟨qj,nD,H0,H1⟩:=H;cases hs with
    |sl vals jc iT cj hF hv cP=>
     rename_i base cap sz;have De:cap=0:=cP;subst De;by_cases hm:xs=[]
     .subst hm;have Ie:news=[]:=List.eq_nil_of_length_eq_zero (by simpa using q1);subst Ie;have hr:=run_append_fits (P:=P) (w:=w) (ty:=ty) ht hu (fun k e=>hd k e) hn (base:=base) (sLen:=0) (sCap:=0) (m:=0) (x:=vx) (news:=[]) q3 (q4 w rfl) (by omega) (w':=w) (fun a _=>by simp[storeCells]) (fun _=>rfl);exact⟨_,w,G,_,h,hr,Gh.le.refl G,hI,.sl vals jc iT cj hF hv cP,H0 rfl⟩
     .have Ib:0<xs.length:=List.length_pos_iff.2 hm;have hr:=Qi (P:=P) (w:=w) (ty:=ty) ht hu (fun k e=>hd k e) hn hb hz (base:=base) (sLen:=0) (sCap:=0) (m:=xs.length) (x:=vx) (olds:=[]) q3 (by cases base<;>simp[Builtin.firstCells,loadCells,loadCellsFrom]) (q4 w.drew rfl) (by omega) (by omega) (by simpa using nD);have sA:=grownCap_ge w (0+xs.length) 0 e;generalize grownCap w (0+xs.length) 0 e=nc at hr sA;simp only[Nat.zero_add]at hr sA;refine⟨_,_,_,_,_,hr,?_,Fj hI.drew (t:=e) (cs:=flat xs++List.replicate ((nc-xs.length)*n) .top) ?_,.ms ?_,H1 hm nc sA⟩
      .exact hI.drew.uk _
      .have:=q2.append (b9.WB G (Builtin.zeroCells z.cells (nc-xs.length)) (k:=(nc-xs.length)*n) (by rw[size_zeroCells,BG]));simpa using this
      .exact Gh.add_same _ _ _
   .rename_i i off len cap sz;obtain⟨rfl,qj,nD,z8,H⟩:=H;split at H
    .rename_i cs T gw;obtain⟨ss,H0,H1⟩:=H;obtain⟨b,vals,h1,h2,h3⟩:=hI.row gw;cases hs with
     |ms Ag=>
      rw[h1]at Ag;cases Ag;by_cases hg:len+xs.length<=cap
      .have L9:off+len*sz+(flat xs).length<=cs.length:=by rw[qg,Nat.add_assoc,<-Nat.add_mul];exact Nat.le_trans (Nat.add_le_add_left (Nat.mul_le_mul_right _ hg) _) ss
       have tu:off+len*sz+0+news.length<=vals.toList.length:=by have h31:=h3.1;have h32:vals.toList.length=vals.size:=Array.length_toList;rw[h32,q1,<-qg];omega
       have fC:=run_storeCells_at P b (off+len*sz) T news 0 vals w h2 tu Ia;simp only[Nat.add_zero]at fC;have hr:=run_append_fits (P:=P) (w:=w) (ty:=ty) ht hu (fun k e=>hd k e) hn (base:=some ⟨b,off,none⟩) (sLen:=len) (sCap:=cap) (m:=xs.length) (x:=vx) q3 (q4 w rfl) hg (fun a ea=>by cases ea;rw[Addr.add_lit];exact fC) (fun e=>by cases e);exact⟨_,_,G,_,_,hr,Gh.le.refl G,hI.putRow gw L9 (news:=news) q2 h1 h2 h3,.ms h1,H0 hg⟩
      .have hlen:off+len*sz<=cs.length:=Nat.le_trans (Nat.add_le_add_left (Nat.mul_le_mul_right _ z8) _) ss;have hA:=(At.P8 h2 h3).drop off;have hold:(Builtin.firstCells sz len (.slice (some ⟨b,off,none⟩) len cap)).run P w.drew= .ok ((List.range (len*sz)).map fun q=>(w.cell? ⟨b,off+q,none⟩).getD undef).toArray w.drew:=by
        have n9:=run_loadCells (P:=P) w.drew ⟨b,off,none⟩ (len*sz) (fun q=>(w.cell? ⟨b,off+q,none⟩).getD undef) (fun q hq=>by obtain⟨u,q1,q2⟩:=hA q _ (List.getElem?_eq_getElem (show q<(cs.drop off).length by rw[List.length_drop];omega));rw[Nat.zero_add]at q1;rw[Addr.add_lit,BC (w:=w) (by rfl),q1];rfl)
        simpa [Builtin.firstCells]using n9
       have ahA:b9 G ((cs.drop off).take (len*sz)) ((List.range (len*sz)).map fun q=>(w.cell? ⟨b,off+q,none⟩).getD undef).toArray:=by
        refine b9.rn (by simp;omega) fun j c v e e'=>?_;rw[List.getElem?_take]at e;split at e
        .rename_i hj;obtain⟨u,q1,q2⟩:=hA j c e;grind
        .cases e
       have hr:=Qi (P:=P) (w:=w) (ty:=ty) ht hu (fun k e=>hd k e) hn hb hz (base:=some ⟨b,off,none⟩) (sLen:=len) (sCap:=cap) (m:=xs.length) (x:=vx) q3 hold (q4 w.drew rfl) (by omega) qj nD;have sA:=grownCap_ge w (len+xs.length) cap e;generalize grownCap w (len+xs.length) cap e=nc at hr sA;refine⟨_,_,_,_,_,hr,hI.drew.uk _,Fj hI.drew (t:=e) (cs:=(cs.drop off).take (len*sz)++flat xs++List.replicate ((nc-(len+xs.length))*sz) .top) ?_,.ms (Gh.add_same _ _ _),H1 (by omega) nc sA⟩;exact(ahA.append q2).append (b9.WB G (Builtin.zeroCells z.cells (nc-(len+xs.length))) (k:=(nc-(len+xs.length))*sz) (by rw[size_zeroCells,BG]))
    .exact H.elim
   .exact H.elim
  .exact H.elim
 .exact H.elim
def yC(P:Program)(t:TypeId)(len:Nat)(parts:List (Nat×AV))(h:AH)(K:AV->AH->Prop):Prop:=
 match P.underlying t with
 |some (.slice e)=>(match dA P e,jy P e with
  |some n,some z=>n≠0/\z.cells.size=n/\len*n<=16777216/\parts.map (·.1)=List.range len/\(∀p∈parts,p.2.cells.length=n/\(p.2.one=true\/∃cs,p.2= .agg cs))/\K (.ms h.length 0 len len n) (h++[.row (flat (parts.map (·.2))) e])
  |_,_=>False)
 |_=>False
theorem ahB(hI:Inv Γ G h w){t:TypeId}{len:Nat}{parts:Array (Nat×Operand)}{a:Act}(ht:TR N G σ a.tmps){K:AV->AH->Prop}(H:yC P t len (jV Γ σ parts) h K):
  iw P Γ G w (Instr.buildSlice t len (parts.map fun(i,x)=>(i,a.eval x))) K:=by
 have hlen:(jV Γ σ parts).length=(parts.map fun(i,x)=>(i,a.eval x)).toList.length:=by simp[jV]
 have BF:∀(j:Nat) (p:Nat×AV) (q:Nat×Value),(jV Γ σ parts)[j]? =some p->(parts.map fun(i,x)=>(i,a.eval x)).toList[j]? =some q->p.1=q.1/\VR G p.2 q.2:=fun j p q e1 e2=>by simp only[jV,List.getElem?_map,Option.map_eq_some_iff,Array.toList_map]at e1 e2;obtain⟨⟨i,x⟩,h1,rfl⟩:=e1;obtain⟨⟨i',x'⟩,h2,rfl⟩:=e2;rw[h1]at h2;cases h2;exact⟨rfl,oH hI ht x⟩
 unfold yC at H;split at H
 .rename_i e hd;split at H
  .rename_i n z hn hz;obtain⟨h0,hzs,agK,H5,nB,hk⟩:=H;generalize sw:jV Γ σ parts=ps at hlen BF H5 nB hk;have ko:ps.length=len:=by have:=congrArg List.length H5;simpa using this
   have hp:∀k p,ps[k]? =some p->p.1=0+k:=fun k p e=>by
    have:(ps.map (·.1))[k]? =some p.1:=by rw[List.getElem?_map,e];rfl
    grind
   obtain⟨out,mL,f1,f2,f3⟩:=LV (G:=G) ps (parts.map fun(i,x)=>(i,a.eval x)).toList (((Array.range (len*n)).map (z.cells[·%z.cells.size]!)).toList.map fun _=>AV.top)
    ((Array.range (len*n)).map (z.cells[·%z.cells.size]!)) ⟨by simp,fun j c e=>by simp only[List.getElem?_map,Option.map_eq_some_iff]at e;obtain⟨_,_,rfl⟩:=e;exact .top _⟩ hlen BF
    (Wa ps 0 _ hp nB (by simp[ko]) (k:=fun out=>out.length=len*n/\∀j p,ps[j]? =some p->∀q,q<n->out[j*n+q]? =p.2.cells[q]?) (fun out h1 _ h3=>⟨by simpa using h1,fun j p e q hq=>by grind⟩))
   have ik:∀r∈ps.map (·.2),r.cells.length=n:=fun r hr=>by grind
   have Ft:(ps.map (·.2)).length=len:=by simp[ko]
   have Qb:mL.size=len*n:=by rw[<-f2.1];exact f3.1
   have hV:b9 G (flat (ps.map (·.2))) mL:=⟨by rw[wM ik,Ft,Qb],fun q c e=>by
    have hq:=(List.getElem?_eq_some_iff.1 e).1;rw[wM ik,Ft]at hq;have ng:q/n<len:=Nat.div_lt_of_lt_mul (by rw[Nat.mul_comm];exact hq);have hj:q%n<n:=Nat.mod_lt _ (by omega);have zQ:q/n*n+q%n=q:=by rw[Nat.mul_comm];exact Nat.div_add_mod q n
    obtain⟨p,H6⟩:∃p,ps[q/n]? =some p:=⟨_,List.getElem?_eq_getElem (by omega)⟩;have vG:(ps.map (·.2))[q/n]? =some p.2:=by rw[List.getElem?_map,H6];rfl
    have h1:=Fo ik _ _ _ vG hj;rw[zQ,e]at h1;have h2:=f3.2 _ p H6 _ hj;rw[zQ,<-h1]at h2;exact f2.2 q c h2⟩
   refine⟨.slice (some ⟨w.heap.size,0,none⟩) len len,w.alloc (.cells mL e),_,_,_,?_,hI.uk _,Fj hI (t:=e) hV,.ms (Gh.add_same _ _ _),hk⟩;have wN:Instr.fill (fun i=>some (i*n,n)) ((Array.range (len*n)).map (z.cells[·%z.cells.size]!)) (parts.map fun(i,x)=>(i,a.eval x)).toList=some mL:=f1;simp only[Instr.buildSlice,Sem.run_bind,run_underlying hd,Result.andThen_ok,o8 hn];rw[if_neg (by omega)];by_cases pM:len*n=0
   .have hl:len=0:=by rcases Nat.mul_eq_zero.1 pM with h|h<;>omega
    subst hl;simp only[Nat.zero_mul,if_true,Sem.run_pure,Result.andThen_ok,Sem.run_bind]at wN|-;have:((Array.range 0).map fun x=>(#[]:Array Value)[x%(#[]:Array Value).size]!)=((Array.range 0).map (z.cells[·%z.cells.size]!)):=by simp
    rw[this,wN];simp[newRow]
   .rw[if_neg pM];simp only[Sem.run_bind,Sem.run_pure,vB hz,Result.andThen_ok,wN];simp[newRow]
  .exact H.elim
 .exact H.elim
def tD(P:Program)(t:TypeId):Bool:=match P.underlying t with
 |some (.interface _)=>false
 |some _=>true
 |none=>false
def BO(b:Bool)(t:TypeId)(x:AV)(K:AV->Prop):Prop:=b=true/\K (.iface t x)
theorem ahC(hI:Inv Γ G h w){t x u}(hx:VR G x u){K}(H:BO (tD P t) t x fun v=>K v h):iw P Γ G w (Instr.makeInterface t u) K:=by
 obtain⟨h1,H⟩:=H;unfold tD at h1;split at h1
 .cases h1
 .rename_i d cV hu;refine .pure' hI (u:= .iface t u) ?_ (.iface t hx) H;simp only[Instr.makeInterface,Sem.run_bind,run_underlying hu,Result.andThen_ok];rfl
 .cases h1
theorem WD{b t x K}(H:BO b t x K):∃v,K v/\∀K',K' v->BO b t x K':=⟨_,H.2,fun _ hk=>⟨H.1,hk⟩⟩
def wY(P:Program)(t:TypeId):Option AV:=if tD P t then(jy P t).map zM else none
def qk(z:Option AV)(x:AV)(t:TypeId)(ok:Bool)(K:AV->Prop):Prop:=match z,x with
 |some z,.iface t' v=>if t'=t then K (if ok then .tuple [v,.bool true]else v)else ok=true/\K (.tuple [z,.bool false])
 |some z,.nilIface=>ok=true/\K (.tuple [z,.bool false])
 |_,_=>False
theorem ahD(hI:Inv Γ G h w){xt t x u ok}(hx:VR G x u){K}(H:qk (wY P t) x t ok fun v=>K v h):iw P Γ G w (Instr.typeAssert u xt t ok) K:=by
 unfold qk at H;split at H
 .rename_i z t' v hz;unfold wY at hz;split at hz
  .rename_i hn;obtain⟨z0,Dh,rfl⟩:=Option.map_eq_some_iff.1 hz;unfold tD at hn;split at hn
   .cases hn
   .rename_i d cV hu;cases hx with
    |iface _ hv=>
    rename_i vv;split at H
    .rename_i e;subst e;exact .pure' hI (u:=if ok then .tuple #[vv,.bool true]else vv) (by simp only[Instr.typeAssert,Sem.run_bind,run_underlying hu,Result.andThen_ok,if_true,Sem.run_pure]) (hv.BK ok true) H
    .rename_i e;obtain⟨rfl,H⟩:=H;refine .pure' hI (u:= .tuple #[z0,.bool false]) ?_ ((Fh G z0).BK true false) H;simp only[Instr.typeAssert,Sem.run_bind,run_underlying hu,Result.andThen_ok,if_neg e,if_true,vB Dh,Sem.run_pure]
   .cases hn
  .cases hz
 .rename_i z hz;unfold wY at hz;split at hz
  .rename_i hn;obtain⟨z0,Dh,rfl⟩:=Option.map_eq_some_iff.1 hz;unfold tD at hn;split at hn
   .cases hn
   .rename_i d cV hu;cases hx;obtain⟨rfl,H⟩:=H;refine .pure' hI (u:= .tuple #[z0,.bool false]) ?_ ((Fh G z0).BK true false) H;simp only[Instr.typeAssert,Sem.run_bind,run_underlying hu,Result.andThen_ok,if_true,vB Dh,Sem.run_pure]
   .cases hn
  .cases hz
 .exact H.elim
theorem WE{z x t ok K}(H:qk z x t ok K):∃v,K v/\∀K',K' v->qk z x t ok K':=by unfold qk at*;grind
def Ah:Operand->Bool
 | .const .nilIface=>true
 |_=>false
def BP(P:Program)(t:TypeId)(op:BinOp)(x:AV)(K:AV->Prop):Prop:=
 match P.underlying t,op,x with
 |some (.interface _),.eql,.iface _ _=>K (.bool false)
 |some (.interface _),.neq,.iface _ _=>K (.bool true)
 |some (.interface _),.eql,.nilIface=>K (.bool true)
 |some (.interface _),.neq,.nilIface=>K (.bool false)
 |_,_,_=>False
theorem ahE(d){t m}(ht:P.underlying t=some (.interface m)){v b}(hv:(∃t' v',v= .iface t' v')/\b=false\/v= .nilIface/\b=true)(w):(Op.equalIn (d+1) t v .nilIface).run P w= .ok b w:=by rcases hv with⟨⟨t',v',rfl⟩,rfl⟩|⟨rfl,rfl⟩<;>simp only[Op.equalIn,Sem.run_bind,run_underlying ht,Result.andThen_ok,Sem.run_pure]
theorem ahF(hI:Inv Γ G h w){op t ox x u}(hx:VR G x u){K}(H:BP P t op x fun v=>K v h):
  iw P Γ G w (do eqGuard op t ox (.const .nilIface) u .nilIface;binOp op t u .nilIface) K:=by
 have he:∀(v:Value) (b:Bool) (m:Array (String×TypeId)),P.underlying t=some (.interface m)->((∃t' v',v= .iface t' v')/\b=false\/v= .nilIface/\b=true)->(Op.equal t v .nilIface).run P w= .ok b w:=fun v b m ht hv=>by rw[Fl];exact ahE 9999 ht hv w
 unfold BP at H;split at H
 .rename_i m t' v ht;cases hx;exact .pure' hI (by simp[eqGuard,binOp,he _ _ m ht (.inl ⟨⟨_,_,rfl⟩,rfl⟩)]) (.bool false) H
 .rename_i m t' v ht;cases hx;exact .pure' hI (by simp[eqGuard,binOp,he _ _ m ht (.inl ⟨⟨_,_,rfl⟩,rfl⟩)]) (.bool true) H
 .rename_i m ht;cases hx;exact .pure' hI (by simp[eqGuard,binOp,he _ _ m ht (.inr ⟨rfl,rfl⟩)]) (.bool true) H
 .rename_i m ht;cases hx;exact .pure' hI (by simp[eqGuard,binOp,he _ _ m ht (.inr ⟨rfl,rfl⟩)]) (.bool false) H
 .exact H.elim
end
section
variable {P:Program} {Γ:GG} {G:Gh} {h:AH} {w:World} {N:Nat} {σ:Tm}
def uz(P:Program)(t:TypeId):Option (List (Nat×CK)×AV):=match P.underlying t with
 |some (.map kt et)=>(match L8 P kt,jy P et with
  |some l,some z=>if l.map (·.1)=List.range l.length then some (l,zM z)else none
  |_,_=>none)
 |_=>none
def WG:Option Bool->Option (Option Nat)->Option (Option Nat)
 |some true,_=>some (some 0)
 |some false,r=>r.map (Option.map (·+1))
 |none,_=>none
def Ip(l:List (Nat×CK)):AV->AV->Option Bool
 | .agg xs,.agg ys=>if xs.length=l.length/\ys.length=l.length then yz xs ys l else none
 |_,_=>none
def FF(l:List (Nat×CK))(k:AV):List (Nat×AV×AV)->Option (Option Nat)
 |[]=>some none
 |(_,k',_)::r=>WG (Ip l k k') (FF l k r)
def WH:CK->AV->Bool
 | .int,.int _ _=>true
 | .bool,.bool _=>true
 | .str,.str _=>true
 |_,_=>false
def Iq(xs:List AV)(l:List (Nat×CK)):Bool:=l.all fun p=>match xs[p.1]? with
 |some a=>WH p.2 a
 |none=>false
def QJ(l:List (Nat×CK))(ok:Bool)(z k:AV)(ob:Option cO)(K:AV->Prop):Prop:=match ob with
 |some (.map cB _)=>tA ok z (FF l k cB) cB K
 |_=>False
def QK(l:List (Nat×CK))(z m k:AV)(ok:Bool)(h:AH)(K:AV->Prop):Prop:=match k,m with
 | .agg xs,.map (some i)=>Iq xs l=true/\QJ l ok z (.agg xs) (h[i]?) K
 |_,_=>False
def BQ(d:Option (List (Nat×CK)×AV))(P:Program)(t:TypeId)(m k:AV)(ok:Bool)(h:AH)(K:AV->Prop):Prop:=match d with
 |some (l,z)=>QK l z m k ok h K
 |none=>zW P t m k ok h K
def Ir(l:List (Nat×CK))(m k x:AV)(h:AH)(K:AH->Prop):Prop:=match k,m with
 | .agg xs,.map (some i)=>Iq xs l=true/\(match h[i]? with
  |some (.map cB clk)=>(match(FF l (.agg xs) cB).bind (sD cB clk (.agg xs) x)with
   |some ob=>K (h.set i ob)
   |none=>False)
  |_=>False)
 |_,_=>False
def vN(d:Option (List (Nat×CK)×AV))(P:Program)(t:TypeId)(m k x:AV)(h:AH)(K:AH->Prop):Prop:=match d with
 |some (l,_)=>Ir l m k x h K
 |none=>wS P t m k x h K
theorem WI{t l z}(hd:uz P t=some (l,z)):∃kt et fs z0,P.underlying t=some (.map kt et)/\P.underlying kt=some (.struct fs)/\P.stoodInHeld kt=false/\jy P et=some z0/\z=zM z0/\l.map (·.1)=List.range l.length/\
  fs.toList.mapM (fun f=>if f.name= "_" then none else if P.plainKey f.type then(yy (P.underlying f.type)).map fun k=>(f.offset,k)else none)=some l:=by
 unfold uz at hd;split at hd
 .rename_i kt et hu;split at hd
  .rename_i l' z0 h1 h2;split at hd
   .rename_i hr;cases hd;unfold L8 at h1;grind
   .cases hd
  .cases hd
 .cases hd
theorem WJ{xs:List AV}{vx:Array Value}(hx:b9 G xs vx)(e:Bool)(n:Nat)(w:World):∀(fs:List Field) (l:List (Nat×CK)),fs.mapM (fun f=>if f.name= "_" then none else if P.plainKey f.type then(yy (P.underlying f.type)).map fun k=>(f.offset,k)else none)=some l->
  Iq xs l=true->Sem.run P (forIn fs PUnit.unit fun f _=>do
   if f.name≠ "_" then Instr.checkKey e (n+1) f.type (<-part f.type vx f.offset)
   pure (ForInStep.yield PUnit.unit)) w= .ok PUnit.unit w
 |[],l,_,_=>by simp
 |f::fs,l,hl,hs=>by
  rw[List.mapM_cons]at hl;simp only[bind,Option.bind_eq_some_iff,pure,Option.some.injEq]at hl;obtain⟨q,h1,l',h2,rfl⟩:=hl;split at h1
  .cases h1
  .rename_i hn;split at h1
   .rename_i hp;obtain⟨k,hk,rfl⟩:=Option.map_eq_some_iff.1 h1;simp only[Iq,List.all_cons,Bool.and_eq_true]at hs;obtain⟨s1,s2⟩:=hs;split at s1
    .rename_i a ha;obtain⟨u,eu,ru⟩:=hx.get ha;have p1:=run_part_plain (P:=P) w hp (xs:=vx) (off:=f.offset) eu;have p2:(Instr.checkKey e (n+1) f.type u).run P w= .ok () w:=by
      unfold yy at hk;split at hk<;>rename_i hu<;>cases hk;all_goals
       cases a<;>simp[WH]at s1;cases ru;simp[Instr.checkKey,run_underlying hu]
     have ih:=WJ hx e n w fs l' h2 s2;simp_all
    .cases s1
   .cases h1
theorem WK{kt fs l xs vx}(hk:P.underlying kt=some (.struct fs))(hm:fs.toList.mapM (fun f=>if f.name= "_" then none else if P.plainKey f.type then(yy (P.underlying f.type)).map fun k=>(f.offset,k)else none)=some l)
  (hx:b9 G xs vx)(hs:Iq xs l=true)(e n w):(Instr.checkKey e (n+2) kt (.agg vx)).run P w= .ok () w:=by
 have:=WJ (P:=P) hx e n w fs.toList l hm hs;rw[Instr.checkKey];simp only[Sem.run_bind,run_underlying hk,Result.andThen_ok];simp_all
theorem ahG{l xs k' q}(h:Ip l (.agg xs) k'=some q):∃ys,k'= .agg ys/\xs.length=l.length/\ys.length=l.length/\yz xs ys l=some q:=by
 cases k' with
 |agg ys=>
  simp only[Ip]at h;grind
 |_=>simp[Ip]at h
theorem Ma{kt:TypeId}{fs:Array Field}{l:List (Nat×CK)}{xs:List AV}{vx:Array Value}(hk:P.underlying kt=some (.struct fs))(hg:P.stoodInHeld kt=false)(hm:fs.toList.mapM (fun f=>if f.name= "_" then none else if P.plainKey f.type then(yy (P.underlying f.type)).map fun k=>(f.offset,k)else none)=some l)
  (hx:b9 G xs vx)(w:World):∀(cB:List (Nat×AV×AV)) (es:List MapEntry) (n:Nat),cB.length=es.length->(∀(j:Nat) (e:Nat×AV×AV) (x:MapEntry),cB[j]? =some e->es[j]? =some x->VR G e.2.1 x.key)->∀{r:Option Nat},FF l (.agg xs) cB=some r->
  (Instr.findAsking kt (.agg vx) es n).run P w= .ok (foundAt es n r) w/\(∀i,r=some i->i<es.length/\∃ys,(cB[i]?).map (·.2.1)=some (.agg ys)/\ys.length=l.length/\xs.length=l.length/\yz xs ys l=some true)
 |[],[],n,_,_,r,hr=>by cases hr;exact⟨by simp[Instr.findAsking,foundAt],fun i e=>by cases e⟩
 |[],_::_,n,hl,_,_,_=>by simp at hl
 |_::_,[],n,hl,_,_,_=>by simp at hl
 |(b,k',v')::cB,x::es,n,hl,hv,r,hr=>by
  have Dl:=hv 0 _ _ rfl rfl;simp only at Dl;simp only[FF]at hr;cases hq:Ip l (.agg xs) k' with
  |none=>rw[hq]at hr;cases hr
  |some q=>
   rw[hq]at hr;obtain⟨ys,rfl,lx,ly,hq⟩:=ahG hq;generalize FG:x.key=xk at Dl;cases Dl with
   |agg l2 v2=>
   rename_i vy;have Ik:P.fieldsOf kt=fs:=by simp[Program.fieldsOf,hk]
   have he:(Op.equal kt (.agg vx) (.agg vy)).run P w= .ok q w:=by rw[Fl,run_equalIn_struct w 9999 kt vx vy (by rw[Ik];exact hk) hg,Ik];exact QB hx ⟨l2,v2⟩ 9998 w fs.toList l hm hq
   cases q with
   |true=>
    cases hr;refine⟨by simp[Instr.findAsking,FG,he,foundAt],fun i e=>by grind⟩
   |false=>
    simp only[WG,Option.map_eq_some_iff]at hr;obtain⟨r',h1,h2⟩:=hr;obtain⟨q1,q2⟩:=Ma hk hg hm hx w cB es (n+1) (by simpa using hl) (fun j e x he hx=>hv (j+1) e x he hx) h1;subst h2;refine⟨?_,fun i e=>?_⟩
    .simp only[Instr.findAsking,Sem.run_bind,FG,he,Result.andThen_ok,Bool.false_eq_true,if_false,q1];cases r' with
     |none=>rfl
     |some i=>simp[foundAt,Nat.add_assoc,Nat.add_comm 1 i]
    .cases r' with
     |none=>cases e
     |some i'=>
      grind
theorem QL{kt fs l xs vx}(hk:P.underlying kt=some (.struct fs))(hg:P.stoodInHeld kt=false)(hm:fs.toList.mapM (fun f=>if f.name= "_" then none else if P.plainKey f.type then(yy (P.underlying f.type)).map fun k=>(f.offset,k)else none)=some l)
  (hx:b9 G xs vx)(w cB es)(hl:cB.length=es.length)(hv:∀(j:Nat) (e) (x),cB[j]? =some e->es[j]? =some x->VR G e.2.1 x.key){r}(hr:FF l (.agg xs) cB=some r):
  (Instr.findKey kt (.agg vx) es).run P w= .ok (foundAt es 0 r) w:=by
 have h1:=(Ma hk hg hm hx w cB es 0 hl hv hr).1;cases es with
 |nil=>
  simp only[Instr.findKey,Sem.run_bind,run_underlying hk,Result.andThen_ok,Instr.findNow,Sem.run_pure];simp only[Instr.findAsking,Sem.run_pure]at h1;exact h1
 |cons x es=>
  have:Instr.findNow (.struct fs) (.agg vx) (x::es) 0=none:=by simp[Instr.findNow,Instr.sameNow]
  simp only[Instr.findKey,Sem.run_bind,run_underlying hk,Result.andThen_ok,this];exact h1
theorem ahH(hI:Inv Γ G h w){t m k vm vk ok}(hm:VR G m vm)(hk:VR G k vk){K}(H:BQ (uz P t) P t m k ok h fun v=>K v h):iw P Γ G w (Instr.lookup t vm vk ok) K:=by
 unfold BQ at H;split at H
 .rename_i l z hd;obtain⟨kt,et,fs,z0,u1,u2,u3,u4,rfl,u6,u7⟩:=WI hd;unfold QK at H;split at H
  .rename_i xs i;obtain⟨hs,H⟩:=H;unfold QJ tA at H;split at H
   .rename_i cB clk gw;obtain⟨b,es,k1,k2,k3,k4⟩:=hI.obj i _ gw;cases hm with
    |map hb=>
    rw[k1]at hb;cases hb;cases hk with
    |agg l1 v1=>
    rename_i vx;have wR:∀(j:Nat) (e:Nat×AV×AV) (x:MapEntry),cB[j]? =some e->es.toList[j]? =some x->VR G e.2.1 x.key:=fun j e x he hx=>(k4 j e x he (by simpa using hx)).2.1;have oe:=fun e=>WK (P:=P) u2 u7 ⟨l1,v1⟩ hs e 9998 w;split at H
    .rename_i hr;have q1:=QL (P:=P) u2 u3 u7 ⟨l1,v1⟩ w cB es.toList (by simpa using k3) wR hr;exact .pure' hI (u:=if ok then .tuple #[z0,.bool false]else z0) (by simp[Instr.lookup,run_underlying u1,run_getObj_map _ _ _ _ k2,oe,q1,foundAt,vB u4]) ((Fh G z0).BK ok false) H
    .rename_i j hr;have q1:=QL (P:=P) u2 u3 u7 ⟨l1,v1⟩ w cB es.toList (by simpa using k3) wR hr;obtain⟨hj,_⟩:=(Ma (P:=P) u2 u3 u7 ⟨l1,v1⟩ w cB es.toList 0 (by simpa using k3) wR hr).2 j rfl;obtain⟨x,hx⟩:∃x,es.toList[j]? =some x:=⟨_,List.getElem?_eq_getElem hj⟩;split at H
     .rename_i e he;have c_:=(k4 j e x he (by simpa using hx)).2.2;have nh:es[j]? =some x:=by simpa using hx
      exact .pure' hI (u:=if ok then .tuple #[x.val,.bool true]else x.val) (by simp[Instr.lookup,run_underlying u1,run_getObj_map _ _ _ _ k2,oe,q1,foundAt,nh]) (c_.BK ok true) H
     .exact H.elim
    .exact H.elim
   .exact H.elim
  .exact H.elim
 .exact ag3 hI hm hk H
theorem WL{xs ys:List AV}:∀{l:List (Nat×CK)},yz xs ys l=some true->∀p∈l,∃a c,xs[p.1]? =some a/\ys[p.1]? =some c/\BL p.2 a c=some true
 |[],_,p,hp=>by simp at hp
 |(o,k)::l,h,p,hp=>by
  simp only[yz]at h;unfold Qy at h;split at h
  .rename_i b1 b2 h1 h2;simp only[Option.some.injEq,Bool.and_eq_true]at h;obtain⟨rfl,rfl⟩:=h;rcases List.mem_cons.1 hp with rfl|hp
   .unfold Qx at h1;grind
   .exact WL h2 p hp
  .cases h
theorem ahI{ck a c u v}(ha:VR G a u)(hc:VR G c v)(h:BL ck a c=some true)(n):Instr.sameBits n v u=true:=by
 cases ck<;>cases a<;>cases c<;>simp[BL]at h
 .obtain⟨rfl,rfl⟩:=h;cases ha;cases hc;simp[Instr.sameBits]
 .subst h;cases ha;cases hc;simp[Instr.sameBits]
 .cases ha;cases hc;rename_i s1 s2;have:(s2==s1)=true:=by rw[beq_toListBytes];simp[h]
  simpa [Instr.sameBits]using this
theorem ahJ{l xs ys vx vy}(hr:l.map (·.1)=List.range l.length)(hx:b9 G xs vx)(hy:b9 G ys vy)(lx:xs.length=l.length)(ly:ys.length=l.length)(h:yz xs ys l=some true):Instr.sameBits 10000 (.agg vy) (.agg vx)=true:=by
 have hs:vy.size=vx.size:=by rw[<-hx.1,<-hy.1,lx,ly]
 have:∀p∈vy.toList.zip vx.toList,Instr.sameBits 9999 p.1 p.2=true:=fun p hp=>by
  obtain⟨j,hj,e⟩:=List.getElem_of_mem hp;have BM:j<l.length:=by have:=hj;simp at this;have:=hy.1;omega
  have ho:l[j].1=j:=by have:=congrArg (·[j]?) hr;simp[BM]at this;exact this
  obtain⟨a,c,e1,e2,e3⟩:=WL h l[j] (List.getElem_mem BM);rw[ho]at e1 e2;obtain⟨u,q1,q2⟩:=hx.get e1;obtain⟨v,p1,p2⟩:=hy.get e2;rw[List.getElem_zip]at e;subst e;have a1:vx.toList[j]? =some u:=by simpa using q1
  have a2:vy.toList[j]? =some v:=by simpa using p1
  have b1:=(List.getElem?_eq_some_iff.1 a1).2;have b2:=(List.getElem?_eq_some_iff.1 a2).2;simp only[b1,b2];exact ahI q2 p2 e3 9999
 simp only[Instr.sameBits,hs,beq_self_eq_true,Bool.true_and,List.all_eq_true];exact this
theorem WN(hI:Inv Γ G h w){t m k x vm vk vx}(hm:VR G m vm)(hk:VR G k vk)(hx:VR G x vx){K}(H:vN (uz P t) P t m k x h K):LR P Γ G w (Instr.mapUpdate t vm vk vx) K:=by
 unfold vN at H;split at H
 .rename_i l z hd;obtain⟨kt,et,fs,z0,u1,u2,u3,u4,rfl,u6,u7⟩:=WI hd;unfold Ir at H;split at H
  .rename_i xs i;obtain⟨hs,H⟩:=H;split at H
   .rename_i cB clk gw;obtain⟨b,es,k1,k2,k3,k4⟩:=hI.obj i _ gw;have vP:=hk;cases hm with
    |map hb=>
    rw[k1]at hb;cases hb;cases hk with
    |agg l1 v1=>
    rename_i QM;have wR:∀(j:Nat) (e:Nat×AV×AV) (x:MapEntry),cB[j]? =some e->es.toList[j]? =some x->VR G e.2.1 x.key:=fun j e x he hx=>(k4 j e x he (by simpa using hx)).2.1;have oe:=fun e=>WK (P:=P) u2 u7 ⟨l1,v1⟩ hs e 9998 w;split at H
    .rename_i ob pL;rw[Option.bind_eq_some_iff]at pL;obtain⟨r,hr,pL⟩:=pL;have q1:=QL (P:=P) u2 u3 u7 ⟨l1,v1⟩ w cB es.toList (by simpa using k3) wR hr;cases r with
     |none=>
      cases pL;refine⟨w.putObj b (.map (es.push {key:= .agg QM,val:=vx,born:=clk}) (clk+1)),G,_,?_,Gh.le.refl G,hI.L7 k1 k2 (by simp[k3]) (fun j e y he hy=>?_) (by rw[gw];simp),H⟩
      .simp[Instr.mapUpdate,run_underlying u1,run_getObj_map _ _ _ _ k2,oe,q1,foundAt,L6 k2]
      grind
     |some j=>
      simp only[sD,Option.map_eq_some_iff]at pL;obtain⟨e0,Dn,rfl⟩:=pL;obtain⟨hj,ys,Is,ly,lx,heq⟩:=(Ma (P:=P) u2 u3 u7 ⟨l1,v1⟩ w cB es.toList 0 (by simpa using k3) wR hr).2 j rfl;have zZ:j<es.size:=by simpa using hj
      have Ii:es[j]? =some es[j]:=Array.getElem?_eq_getElem zZ;have Ij:=(k4 j e0 _ Dn Ii).2.1;rw[Dn]at Is;simp only[Option.map_some,Option.some.injEq]at Is;rw[Is]at Ij;have FA:Instr.sameBits 10000 es[j].key (.agg QM)=true:=by
       generalize es[j].key=kk at Ij;cases Ij with
       |agg l2 v2=>exact ahJ u6 ⟨l1,v1⟩ ⟨l2,v2⟩ lx ly heq
      refine⟨w.putObj b (.map (es.modify j fun e=>{e with key:= .agg QM,val:=vx}) clk),G,_,?_,Gh.le.refl G,hI.L7 k1 k2 (by simp[k3]) (fun j' e y he hy=>?_) (by rw[gw];simp),H⟩
      .simp[Instr.mapUpdate,run_underlying u1,run_getObj_map _ _ _ _ k2,oe,q1,foundAt,Ii,Instr.keyThatStays,FA,L6 k2]
      grind
    .exact H.elim
   .exact H.elim
  .exact H.elim
 .exact ag6 hI hm hk hx H
end
def BS(x:AV)(K:AV->Prop):Prop:=
 match x with
 | .ptr (some _)=>K x
 | .bS _=>K x
 | .func _ _ _=>K x
 | .yield _=>K x
 |_=>False
def pO(P:Program)(b:Builtin)(ts:List TypeId)(xs:List AV)(h:AH)(K:AV->AH->Prop):Prop:=
 match b,ts,xs with
 | .len,[t],[x]=>zV P t x h fun v=>K v h
 | .append,[t,u],[s,x]=>nC P t u s x h K
 | .min,_,[x,y]=>FB x y fun v=>K v h
 | .max,_,[x,y]=>z6 x y fun v=>K v h
 | .clear,[t],[x]=>Du P t x h K
 |_,_,_=>False
def dS(P:Program)(Γ:GG)(σ:Tm)(h:AH)(op:Op)(K:AV->AH->Prop):Prop:=
 match op with
 | .move x=>K (ev Γ σ x) h
 | .assign x=>K (ev Γ σ x) h
 | .pick c a b=>(match ev Γ σ c with
  | .bool t=>K (if t then ev Γ σ a else ev Γ σ b) h
  |_=>False)
 | .alloc t=>vD P t h K
 | .box t x=>Dc t (ev Γ σ x) h K
 | .build t parts=>kq P t (jV Γ σ parts) fun v=>K v h
 | .buildSlice t len parts=>vF P t len (jV Γ σ parts) fun v=>K v h
 | .load t a=>oI P t (ev Γ σ a) h K
 | .store t a x=>vC P t (ev Γ σ a) (ev Γ σ x) h fun h'=>K (.tuple []) h'
 | .nilCheck x=>BS (ev Γ σ x) fun v=>K v h
 | .binOp op t x y _=>uy P op t (ev Γ σ x) (ev Γ σ y) fun v=>K v h
 | .unOp op _ x=>yu op (ev Γ σ x) fun v=>K v h
 | .convert s d x=>z7 P s d (ev Γ σ x) fun v=>K v h
 | .makeFunc (.func f) first captured=>K (.func f (first.toList.map (ev Γ σ)) (captured.toList.map (ev Γ σ))) h
 | .makeMap _ none=>L5 h K
 | .makeSlice t l c=>tC P t (ev Γ σ l) (ev Γ σ c) h K
 | .range t x=>Dv P t (ev Γ σ x) h K
 | .entry x=>FD (ev Γ σ x) h fun v=>K v h
 | .index t x i=>Af P t (ev Γ σ x) (ev Γ σ i) fun v=>K v h
 | .slice t x lo hi mx=>wU P t (ev Γ σ x) (lo.map (ev Γ σ)) (hi.map (ev Γ σ)) (mx.map (ev Γ σ)) fun v=>K v h
 | .fieldAddr s x f=>yq P s (ev Γ σ x) f fun v=>K v h
 | .field t x f=>Fk P t (ev Γ σ x) f fun v=>K v h
 | .indexAddr t x i=>yr P t (ev Γ σ x) (ev Γ σ i) fun v=>K v h
 | .lookup t m k ok=>BQ (uz P t) P t (ev Γ σ m) (ev Γ σ k) ok h fun v=>K v h
 | .extract x i=>yv (ev Γ σ x) i fun v=>K v h
 | .makeInterface t x=>BO (tD P t) t (ev Γ σ x) fun v=>K v h
 | .typeAssert x _ t ok=>qk (wY P t) (ev Γ σ x) t ok fun v=>K v h
 | .mapUpdate t m k x=>vN (uz P t) P t (ev Γ σ m) (ev Γ σ k) (ev Γ σ x) h fun h'=>K (.tuple []) h'
 | .insert t m k x=>vN (uz P t) P t (ev Γ σ m) (ev Γ σ k) (ev Γ σ x) h fun h'=>K (.tuple []) h'
 | .call c=>(match c.callee with
  | .builtin b=>pO P b c.argTypes.toList (c.args.toList.map (ev Γ σ)) h K
  |_=>False)
 |_=>False
def wZ(P:Program)(Γ:GG)(G:Gh)(w:World)(s:Sem Next)(K:AV->AH->Prop):Prop:=
 ∃n u w' G' av h',s.run P w= .ok n w'/\(n= .value u\/(n= .skip/\u=undef))/\G.le G'/\Inv Γ G' h' w'/\VR G' av u/\K av h'
section
variable {P:Program} {Γ:GG} {G:Gh} {h:AH} {w:World} {N:Nat} {σ:Tm}
theorem wZ.val{s K}(H:iw P Γ G w s K):wZ P Γ G w (do pure (.value (<-s))) K:=by obtain⟨u,w',G',av,h',h1,h2,h3,h4,h5⟩:=H;exact⟨.value u,u,w',G',av,h',by simp[h1],.inl rfl,h2,h3,h4,h5⟩
theorem wZ.unit{s K}(H:LR P Γ G w s fun h'=>K (.tuple []) h'):wZ P Γ G w (do s;pure .skip) K:=by obtain⟨w',G',h',h1,h2,h3,h4⟩:=H;exact⟨.skip,undef,w',G',_,h',by simp[h1],.inr ⟨rfl,rfl⟩,h2,h3,.tuple rfl (fun j c e=>by simp at e),h4⟩
theorem wZ.now(hI:Inv Γ G h w){u av K}(hv:VR G av u)(hk:K av h):wZ P Γ G w (pure (.value u)) K:=
 ⟨.value u,u,w,G,av,h,rfl,.inl rfl,Gh.le.refl G,hI,hv,hk⟩
theorem Dy(hI:Inv Γ G h w){a:Act}(ht:TR N G σ a.tmps)(xs:Array Operand):b9 G (xs.toList.map (ev Γ σ)) (xs.map a.eval):=
 b9.rn (by simp) fun j c v e e'=>by simp only[List.getElem?_map,Option.map_eq_some_iff,Array.getElem?_map,Array.getElem?_toList]at e e';obtain⟨x,h1,rfl⟩:=e;obtain⟨y,h2,rfl⟩:=e';rw[h1]at h2;cases h2;exact oH hI ht x
theorem QN(hI:Inv Γ G h w){a:Act}(ht:TR N G σ a.tmps)(x:Option Operand):vK G (x.map (ev Γ σ)) (x.map a.eval):=by
 cases x with
 |none=>trivial
 |some x=>exact oH hI ht x
theorem b9.inv1{x vs}(hv:b9 G [x] vs):∃v,vs= #[v]/\VR G x v:=by obtain⟨v,h1,h2⟩:=hv.get (j:=0) rfl;refine⟨v,?_,h2⟩;have hl:=hv.1;grind
theorem b9.inv2{x y vs}(hv:b9 G [x,y] vs):∃v u,vs= #[v,u]/\VR G x v/\VR G y u:=by obtain⟨v,h1,h2⟩:=hv.get (j:=0) rfl;obtain⟨u,k1,k2⟩:=hv.get (j:=1) rfl;refine⟨v,u,?_,h2,k2⟩;have hl:=hv.1;grind
theorem ahK(hI:Inv Γ G h w){b ts tl ty consts xs vs}(hv:b9 G xs vs)(rB:ts=tl.toArray)
  {K}(H:pO P b tl xs h K):wZ P Γ G w (builtin b ts ty consts vs) K:=by
 subst rB;unfold pO at H;split at H
 .obtain⟨v,rfl,h1⟩:=hv.inv1;exact .val (ag1 hI h1 rfl H)
 .obtain⟨v,u,rfl,h1,h2⟩:=hv.inv2;exact .val (agS hI h1 h2 H)
 .obtain⟨v,u,rfl,h1,h2⟩:=hv.inv2;exact .val (ag7 hI h1 h2 H)
 .obtain⟨v,u,rfl,h1,h2⟩:=hv.inv2;exact .val (ag8 hI h1 h2 H)
 .obtain⟨v,rfl,h1⟩:=hv.inv1;exact .val (ahk hI h1 H)
 .exact H.elim
theorem WQ(hI:Inv Γ G h w){a:Act}(ht:TR N G σ a.tmps){o K}(H:dS P Γ σ h o.op K):wZ P Γ G w (execOp a.eval o) K:=by
 have e:=fun x=>oH (x:=x) hI ht;unfold dS at H;unfold execOp;split at H<;>rename_i ho<;>simp only[ho]
 .exact .now hI (e _) H
 .exact .now hI (e _) H
 .rename_i c x y;split at H
  .rename_i t hc;have LM:=e c;rw[hc]at LM;generalize a.eval c=vc at LM;cases LM;have:=wZ.now (P:=P) hI (u:=if t then a.eval x else a.eval y) (av:=if t then ev Γ σ x else ev Γ σ y) (by cases t<;>simp<;>exact e _) H;simpa [asBool]using this
  .exact H.elim
 .exact .val (ago hI H)
 .exact .val (agn hI (e _) H)
 .exact .val (agG hI ht H)
 .exact .val (agI hI ht H)
 .exact .val (agl hI (e _) H)
 .exact .unit (agm hI (e _) (e _) H)
 .rename_i x;have hx:=e x;unfold BS at H;split at H;all_goals first
   |exact H.elim
   |(rename_i nh
     rw[nh]at hx H;generalize a.eval x=vx at hx;have Di:=hx;cases hx;exact .now hI Di H)
 .exact .val (ag_ hI (e _) (e _) H)
 .exact .val (agB hI (e _) H)
 .exact .val (ahb hI (e _) H)
 .rename_i f first captured
  have h1:=Dy hI ht first
  have h2:=Dy hI ht captured;exact .val (.pure' hI (by simp[Instr.makeFunc]<;>rfl) (.func h1.1 h2.1 h1.2 h2.2) H)
 .exact .val (ag2 hI H)
 .exact .val (ahi hI (e _) (e _) H)
 .exact .val (ahm hI (e _) H)
 .exact .val (aht hI (e _) H)
 .exact .val (ahu hI (e _) (e _) H)
 .exact .val (ahe hI (e _) (QN hI ht _) (QN hI ht _) (QN hI ht _) H)
 .exact .val (agp hI (e _) H)
 .exact .val (agq hI (e _) H)
 .exact .val (agr hI (e _) (e _) H)
 .exact .val (ahH hI (e _) (e _) H)
 .exact .val (agD hI (e _) H)
 .exact .val (ahC hI (e _) H)
 .exact .val (ahD hI (e _) H)
 .exact .unit (WN hI (e _) (e _) (e _) H)
 .exact .unit (WN hI (e _) (e _) (e _) H)
 .rename_i c;split at H
  .rename_i b hb;have hv:=Dy hI ht c.args;have:=fun consts=>ahK (ty:=o.type) (consts:=consts) hI hv (Array.toArray_toList (xs:=c.argTypes)).symm H;simp only[resolve,hb,pure_bind,invoke];exact this _
  .exact H.elim
 .exact H.elim
end
def Fr(r:Option Nat):Fence:={fn:=fun _=>True,depth:=none,alive:=false,round:=r}
theorem w7{r n P f args w R}:CallsIn (Fr r) n P f args w R<->Calls P f args w R:=
 (show CallsIn (Fr r) n P f args w R<->CallsIn Fence.wide n P f args w R from Iff.rfl).trans callsIn_wide
def og(Γ:GG)(G:Gh)(R:AV->AH->Prop)(e:Ending)(w':World):Prop:=
 ∃v G' av h',e= .returned v/\G.le G'/\Inv Γ G' h' w'/\VR G' av v/\R av h'
def az(P:Program)(Γ:GG)(f:FuncId)(args:List AV)(h:AH)(R:AV->AH->Prop):Prop:=
 (∀vs w,(callFunc f vs).run P w= .ok (.enter f vs) w)/\
 ∀(G:Gh) (w:World) (vs:Array Value),Inv Γ G h w->b9 G args vs->Calls P f vs w (og Γ G R)
def rD(P:Program)(Γ:GG)(l:Nat)(args:List AV)(h:AH)(R:AV->AH->Prop):Prop:=
 ∀(G:Gh) (w:World) (vs:Array Value) (b:Nat),Inv Γ G h w->b9 G args vs->G.ρ l=some b->
  ∃fn tmps assign body,(Instr.yield b vs).run P w= .ok (.round b fn tmps assign body) w/\∀r,RoundIn (Fr r) 0 P b fn tmps assign body w (og Γ G R)
def mark(D:Nat):Deferred:={target:= .collected D,args:= #[]}
def fA(Γ:GG)(N:Nat)(G:Gh)(ds:List Deferred)(Q:Exit->Tm->AH->Prop)(e:Exit)(a':Act)(w':World):Prop:=
 ∃(G':Gh) (σ':Tm) (h':AH) (Ds:List Nat),G.le G'/\Inv Γ G' h' w'/\TR N G' σ' a'.tmps/\a'.defers=Ds.map mark++ds/\(∀D∈Ds,¬G.ds D/\G'.ds D/\∀b,G'.bJ b≠some D)/\Ds.Nodup/\Q e σ' h'
def bw(P:Program)(Γ:GG)(N:Nat)(c:Code)(Q:Exit->Tm->AH->Prop)(σ:Tm)(h:AH):Prop:=
 ∀(r:Option Nat) (G:Gh) (w:World) (a:Act),(∀l,r=some l->∃D,G.bJ l=some D)->Inv Γ G h w->TR N G σ a.tmps->c.wpIn (Fr r) 0 P (fA Γ N G a.defers Q) a w
def put(d:Option Tmp)(v:AV)(σ:Tm):Tm:=
 match d with
 |some d=>(d,v)::σ
 |none=>σ
def FH(K:AV->Tm->AH->Prop)(σ:Tm)(v:AV)(h:AH):Prop:=K v σ h
def kM(P:Program)(Γ:GG)(o:Oper)(K:AV->Tm->AH->Prop)(σ:Tm)(h:AH):Prop:=
 match o.op with
 | .call c=>(match c.callee with
  | .value f=>(match ev Γ σ f with
   | .func g first cap=>az P Γ g (first++c.args.toList.map (ev Γ σ)++cap) h (FH K σ)
   | .yield l=>rD P Γ l (c.args.toList.map (ev Γ σ)) h (FH K σ)
   |_=>False)
  |_=>dS P Γ σ h o.op fun v h'=>K v σ h')
 |op=>dS P Γ σ h op fun v h'=>K v σ h'
def It:AV->Bool
 | .tuple []=>true
 |_=>false
def mF(σ:Tm):Bool:=It (lk σ 1000000)
def mB(σ:Tm):Bool:=It (lk σ 1000001)
def Me(P:Program)(Γ:GG)(σ:Tm)(h:AH)(op:Op)(K:AV->AH->Prop):Option Prop:=
 match op with
 | .next it false=>some (QI (ev Γ σ it) h K)
 | .binOp op t x y _=>if yB y then some (BN P t op (ev Γ σ x) fun v=>K v h)else if Ah y then some (BP P t op (ev Γ σ x) fun v=>K v h)else none
 | .buildSlice t len parts=>if mF σ then some (yC P t len (jV Γ σ parts) h K)else none
 | .call c=>(match c.callee with
  | .builtin .append=>if(mF σ||mB σ)then some (match c.argTypes.toList,c.args.toList with
   |[t,u],[s,x]=>wW P t u (ev Γ σ s) (ev Γ σ x) h K
   |_,_=>False)else none
  |_=>none)
 |_=>none
def Iu(P:Program)(Γ:GG)(t:TypeId)(v:AV)(name:String)(h:AH)(f:FuncId)(x:AV):Prop:=
 ∀(G:Gh) (w:World) (u:Value),Inv Γ G h w->VR G v u->∃u',(method (P.types.size+Made.depth) t u name).run P w= .ok (f,u') w/\VR G x u'
def WR(P:Program)(Γ:GG)(r:AV)(name:String)(args:List AV)(h:AH)(R:AV->AH->Prop):Prop:=
 match r with
 | .iface t v=>∃f x,Iu P Γ t v name h f x/\az P Γ f (x::args) h R
 |_=>False
def WT(P:Program)(Γ:GG)(σ:Tm)(h:AH)(op:Op)(K:AV->AH->Prop):Option Prop:=
 match op with
 | .call c=>(match c.callee with
  | .invoke r name=>some (WR P Γ (ev Γ σ r) name (c.args.toList.map (ev Γ σ)) h K)
  |_=>none)
 |_=>none
def pQ(P:Program)(Γ:GG)(o:Oper)(K:AV->Tm->AH->Prop)(σ:Tm)(h:AH):Prop:=
 match WT P Γ σ h o.op (fun v h'=>K v σ h')with
 |some p=>p
 |none=>match Me P Γ σ h o.op (fun v h'=>K v σ h')with
  |some p=>p
  |none=>kM P Γ o K σ h
def Ai(b want:Bool)(A B:Prop):Prop:=(b=want->A)/\(b=!want->B)
def w8(v:AV)(want:Bool)(A B:Prop):Prop:=match v with
 | .bool b=>Ai b want A B
 |_=>False
def FI(v:AV)(want:Bool)(A B C:Prop):Prop:=match v with
 | .bool b=>Ai b want A B
 | .tuple []=>C
 |_=>False
def gv:AV->Option (Option Bool)
 | .bool b=>some (some b)
 | .tuple []=>some none
 |_=>none
def Aj(d:Option Tmp)(A:Tmp->Prop):Prop:=match d with
 |some t=>A t
 |none=>False
def sE:List Oper->Nat->Option Tmp
 |[],_=>none
 |o::_,0=>o.dst
 |_::r,n+1=>sE r n
def ke(P:Program)(Γ:GG)(ops:List Oper)(K:Tm->AH->Prop):List Oper->Tm->AH->Prop
 |[],σ,h=>K σ h
 |o::rest,σ,h=>
  match o.guard with
  |none=>pQ P Γ o (fun v σ h=>ke P Γ ops K rest (put o.dst v σ) h) σ h
  |some (j,want)=>Aj (sE ops j) fun t=>FI (lk σ t) want (pQ P Γ o (fun v σ h=>ke P Γ ops K rest (put o.dst v σ) h) ((t,.bool want)::σ) h)
    (ke P Γ ops K rest (put o.dst (.tuple []) ((t,.bool (!want))::σ)) h) (ke P Γ ops K rest (put o.dst (.tuple []) σ) h)
def mi(N:Nat)(ops:Array Oper):Bool:=ops.toList.all fun o=>match o.dst with
 |some d=>Nat.blt d N
 |none=>true
section
variable {P:Program} {Γ:GG} {G:Gh} {h:AH} {w:World} {N:Nat} {σ:Tm} {Q:Exit->Tm->AH->Prop}
theorem og.mono{R R'}(hR:∀v h,R v h->R' v h){G0}(hle:G0.le G){e}(H:og Γ G R e w):og Γ G0 R' e w:=by obtain⟨v,G',av,h',h1,h2,h3,h4,h5⟩:=H;exact⟨v,G',av,h',h1,hle.trans h2,h3,h4,hR _ _ h5⟩
theorem az.mono{f args R R'}(H:az P Γ f args h R)(hR:∀v h,R v h->R' v h):az P Γ f args h R':=
 ⟨H.1,fun G w vs hI hv=>(H.2 G w vs hI hv).mono fun _ _=>og.mono hR (Gh.le.refl G)⟩
theorem rD.mono{l args R R'}(H:rD P Γ l args h R)(hR:∀v h,R v h->R' v h):rD P Γ l args h R':=fun G w vs b hI hv hb=>by obtain⟨fn,tmps,assign,body,h1,h2⟩:=H G w vs b hI hv hb;exact⟨fn,tmps,assign,body,h1,fun r=>(h2 r).mono fun _ _=>og.mono hR (Gh.le.refl G)⟩
theorem fA.mono{ds Q'}(hQ:∀e σ h,Q e σ h->Q' e σ h){e a}(H:fA Γ N G ds Q e a w):fA Γ N G ds Q' e a w:=by obtain⟨G',σ',h',Ds,h1,h2,h3,h4,h5,h6,h7⟩:=H;exact⟨G',σ',h',Ds,h1,h2,h3,h4,h5,h6,hQ _ _ _ h7⟩
theorem bw.mono{c Q'}(H:bw P Γ N c Q σ h)(hQ:∀e σ h,Q e σ h->Q' e σ h):bw P Γ N c Q' σ h:=
 fun r G w a h1 h2 h3=>wpIn_mono (H r G w a h1 h2 h3) fun _ _ _=>fA.mono hQ
theorem fA.now(hI:Inv Γ G h w){a}(ht:TR N G σ a.tmps){e}(hq:Q e σ h):fA Γ N G a.defers Q e a w:=
 ⟨G,σ,h,[],Gh.le.refl G,hI,ht,rfl,fun D hD=>by simp at hD,List.nodup_nil,hq⟩
theorem fA.trans{G1 ds}{Ds:List Nat}(hle:G.le G1)(nG:∀D∈Ds,¬G.ds D/\G1.ds D/\∀b,G1.bJ b≠some D)(iF:Ds.Nodup){e a}(H:fA Γ N G1 (Ds.map mark++ds) Q e a w):fA Γ N G ds Q e a w:=by
 obtain⟨G',σ',h',Ds',h1,h2,h3,h4,h5,h6,h7⟩:=H;refine⟨G',σ',h',Ds'++Ds,hle.trans h1,h2,h3,by rw[h4];simp,fun D hD=>?_,?_,h7⟩
 .rcases List.mem_append.1 hD with hD|hD
  .exact⟨fun k=>(h5 D hD).1 (hle.ds D k),(h5 D hD).2⟩
  .exact⟨(nG D hD).1,h1.ds D (nG D hD).2.1,fun b e=>by obtain⟨b',e'⟩:=h1.ym b D e (nG D hD).2.1;exact(nG D hD).2.2 b' e'⟩
 grind
theorem WU(H:Q .normal σ h):bw P Γ N .skip Q σ h:=fun _ _ _ _ _ hI ht=>wpIn_skip (fA.now hI ht H)
theorem WV{l}(H:Q .normal σ h):bw P Γ N (.label l) Q σ h:=fun _ _ _ _ _ hI ht=>wpIn_label (fA.now hI ht H)
theorem WW{id}(H:Q (.exit id) σ h):bw P Γ N (.exit id) Q σ h:=fun _ _ _ _ _ hI ht=>wpIn_exit (fA.now hI ht H)
theorem WX{l}(H:Q (.goto l) σ h):bw P Γ N (.goto l) Q σ h:=fun _ _ _ _ _ hI ht=>wpIn_goto (fA.now hI ht H)
theorem WY(H:Q .ret σ h):bw P Γ N .ret Q σ h:=fun _ _ _ _ _ hI ht=>wpIn_ret (fA.now hI ht H)
def iP(K:Tm->AH->Prop)(Q:Exit->Tm->AH->Prop):Exit->Tm->AH->Prop
 | .normal,σ,h=>K σ h
 |e,σ,h=>Q e σ h
theorem bw.after{c}(H:bw P Γ N c Q σ h){r G0 ds}{Ds:List Nat}(hr:∀l,r=some l->∃D,G0.bJ l=some D)(hle:G0.le G)
  (nG:∀D∈Ds,¬G0.ds D/\G.ds D/\∀b,G.bJ b≠some D)(iF:Ds.Nodup)(hI:Inv Γ G h w){a}(ht:TR N G σ a.tmps)(hd:a.defers=Ds.map mark++ds):c.wpIn (Fr r) 0 P (fA Γ N G0 ds Q) a w:=
 wpIn_mono (H r G w a (fun l e=>by obtain⟨D,k⟩:=hr l e;exact⟨D,hle.bJ _ _ k⟩) hI ht) fun e a' w' hp=>by rw[hd]at hp;exact hp.trans hle nG iF
theorem fR{x y}(H:bw P Γ N x (iP (bw P Γ N y Q) Q) σ h):bw P Γ N (.seq x y) Q σ h:=fun r G w a hr hI ht=>by
 refine wpIn_seq (wpIn_mono (H r G w a hr hI ht) fun e a' w' hp=>?_);cases e with
 |normal=>
  obtain⟨G',σ',h',Ds,h1,h2,h3,h4,h5,h6,h7⟩:=hp;exact bw.after h7 hr h1 h5 h6 h2 h3 h4
 |_=>exact hp
theorem uB{c x y b}(hc:ev Γ σ c= .bool b)(h1:b=true->bw P Γ N x Q σ h)(h2:b=false->bw P Γ N y Q σ h):bw P Γ N (.cond c x y) Q σ h:=fun r G w a hr hI ht=>by
 have hv:=oH hI ht c;rw[hc]at hv;have hb:a.eval c= .bool b:=by generalize a.eval c=vc at hv;cases hv;rfl
 cases b with
 |true=>exact wpIn_cond_true hb (h1 rfl r G w a hr hI ht)
 |false=>exact wpIn_cond_false hb (h2 rfl r G w a hr hI ht)
def w9(id:Nat)(Q:Exit->Tm->AH->Prop):Exit->Tm->AH->Prop
 | .exit rE,σ,h=>if rE=id then Q .normal σ h else Q (.exit rE) σ h
 |e,σ,h=>Q e σ h
theorem jZ{id c}(H:bw P Γ N c (w9 id Q) σ h):bw P Γ N (.block id c) Q σ h:=fun r G w a hr hI ht=>by
 refine wpIn_block (wpIn_mono (H r G w a hr hI ht) fun e a' w' hp=>?_);cases e with
 |exit rE=>
  show if rE=id then _ else _
  obtain⟨G',σ',h',Ds,h1,h2,h3,h4,h5,h6,h7⟩:=hp;simp only[w9]at h7;split
  .rename_i he;rw[if_pos he]at h7;exact⟨G',σ',h',Ds,h1,h2,h3,h4,h5,h6,h7⟩
  .rename_i he;rw[if_neg he]at h7;exact⟨G',σ',h',Ds,h1,h2,h3,h4,h5,h6,h7⟩
 |_=>exact hp
def WZ(I:Nat->Tm->AH->Prop)(n:Nat)(Q:Exit->Tm->AH->Prop):Exit->Tm->AH->Prop
 | .normal,σ,h=>∃m,m<n/\I m σ h
 |e,σ,h=>Q e σ h
theorem ahM{F m c Q a w}(I:Nat->Act->World->Prop){n}(ahN:I n a w)
  (round:∀n a w,I n a w->c.wpIn F m P (Exit.then (fun a' w'=>∃j,j<n/\I j a' w') Q) a w):(Code.loop c).wpIn F m P Q a w:=by
 intro b k cs nn hb hr;have key:∀n a w,I n a w->
   ∃e a' w',Q e a' w'/\ArrivesIn (Machine.fenced P F) P (lone (b.atR a (.code c:: .inLoop c::k)) cs w) b k cs e a' w':=by
  intro n;induction n using Nat.strongRecOn with
  |_ n ih=>
   intro a w hI;obtain⟨e,pR,pS,hq,nH⟩:=round n a w hI b (.inLoop c::k) cs nn hb hr;cases e with
   |normal=>
    obtain⟨j,dN,ahO⟩:=hq;obtain⟨ahP,ahQ,ahR,ahS,ahT⟩:=ih j dN pR pS ahO;exact⟨ahP,ahQ,ahR,ahS,.of_steps (StepsIn.trans nH (.one (fenced_calm hb hr rfl) stepR_inLoop)) ahT⟩
   |exit id=>exact⟨_,pR,pS,hq,.pass (x:= .inLoop c) rfl (fun _ _=> .inl (by simp)) nH⟩
   |goto l=>exact⟨_,pR,pS,hq,.pass (x:= .inLoop c) rfl (fun _ _=> .inl (by simp)) nH⟩
   |ret=>exact⟨_,pR,pS,hq,.pass (x:= .inLoop c) rfl (fun _ _=> .inl (by simp)) nH⟩
   |panic ch=>exact⟨_,pR,pS,hq,.pass (x:= .inLoop c) rfl (fun _ _=> .inl (by simp)) nH⟩
   |outgrown=>exact⟨_,pR,pS,hq,.pass (x:= .inLoop c) rfl (fun _ _=> .inl (by simp)) nH⟩
 obtain⟨e,a',w',hq,nH⟩:=key n a w ahN;exact⟨e,a',w',hq,.of_steps (.one (fenced_calm hb hr rfl) stepR_loop) nH⟩
theorem Iw{c}(I){n}(h0:I n σ h)(H:∀n σ h,I n σ h->bw P Γ N c (WZ I n Q) σ h):bw P Γ N (.loop c) Q σ h:=fun r G w a hr hI ht=>by
 refine ahM (fun n a' w'=>fA Γ N G a.defers (fun _ σ h=>I n σ h) .normal a' w') (fA.now hI ht h0) fun n a' w' hp=>?_;obtain⟨G',σ',h',Ds,h1,h2,h3,h4,h5,h6,h7⟩:=hp;refine wpIn_mono (bw.after (H n σ' h' h7) hr h1 h5 h6 h2 h3 h4) fun e QP Ak hp=>?_;cases e with
 |normal=>
  obtain⟨G',σ',h',Ds,h1,h2,h3,h4,h5,h6,m,hm,h7⟩:=hp;exact⟨m,hm,G',σ',h',Ds,h1,h2,h3,h4,h5,h6,h7⟩
 |_=>exact hp
theorem bw.weaken{c σ'}(H:bw P Γ N c Q σ' h)(hw:∀i,lk σ' i=lk σ i\/lk σ' i= .top):bw P Γ N c Q σ h:=fun r G w a hr hI ht=>
 H r G w a hr hI ⟨ht.1,fun i=>by
  rcases hw i with e|e
  .rw[e];exact ht.2 i
  .rw[e];exact .top _⟩
def yE(σ σ':Tm):Prop:=∀(G:Gh) (i:Nat) (v:Value),VR G (lk σ i) v->VR G (lk σ' i) v
theorem yE.of_eq{σ σ'}(e:σ=σ'):yE σ σ':=fun _ _ _ h=>e▸h
theorem bw.Ix{c σ'}(H:bw P Γ N c Q σ' h)(hw:yE σ σ'):bw P Γ N c Q σ h:=fun r G w a hr hI ht=>H r G w a hr hI ⟨ht.1,fun i=>hw G i _ (ht.2 i)⟩
def keep(L:List Nat)(σ:Tm):Tm:=L.map fun i=>(i,lk σ i)
theorem W8(L σ i):lk (keep L σ) i=lk σ i\/lk (keep L σ) i= .top:=by
 induction L with
 |nil=>exact .inr rfl
 |cons j L ih=>
  simp only[keep,List.map_cons,lk];split
  .rename_i e;subst e;exact .inl rfl
  .exact ih
theorem bw.keep{c:Code}(L:List Nat)(H:bw P Γ N c Q (keep L σ) h):bw P Γ N c Q σ h:=H.weaken (W8 L σ)
theorem TR.put{a:Act}(ht:TR N G σ a.tmps){d:Option Tmp}{v u}(hd:∀x,d=some x->x<N)(hv:VR G v u):TR N G (aS.put d v σ) (a.put d u).tmps:=by
 cases d with
 |none=>exact ht
 |some x=>
  refine⟨by simp[Act.put,ht.1],fun i=>?_⟩;have hx:=hd x rfl;simp only[aS.put,lk,Act.put];by_cases hi:i=x
  .subst hi;rw[if_pos rfl];have:i<a.tmps.size:=by rw[ht.1];exact hx
   simp_all
  .rw[if_neg hi];have:=ht.2 i;rw[Array.getD_eq_getD_getElem?]at this|-;grind
theorem put_defers(a:Act)(d u):(a.put d u).defers=a.defers:=by cases d<;>rfl
theorem VR.undef(G:Gh):VR G (.tuple []) undef:=VR.tuple (cs:=[]) (vals:= #[]) rfl (fun j c e=>by simp at e)
theorem BV(ro ρ o)(h:∀c,o.op≠ .defer c):Oper.semAt ro ρ o=execOp ρ o:=Oper.semAt_eq ro ρ o h
theorem ahU{o:Oper}{K}(H:dS P Γ σ h o.op K):∀c,o.op≠ .defer c:=fun c e=>by rw[e]at H;exact H
theorem Mf{o K}(hI:Inv Γ G h w){a}(ht:TR N G σ a.tmps)(H:kM P Γ o K σ h){r next Q'}
  (hn:∀u v G' h' w',G.le G'->Inv Γ G' h' w'->VR G' v u->K v σ h'->next (a.put o.dst u) w'):o.wpIn (Fr r) 0 P a w next Q':=by
 refine⟨fun _ _=>trivial,?_⟩;have plain:dS P Γ σ h o.op (fun v h'=>K v σ h')->o.uponIn (Fr r) 0 P a next Q' ((o.semAt r a.eval).run P w):=fun H=>by
  rw[BV r a.eval o (ahU H)];obtain⟨n,u,w',G',av,h',h1,h2,h3,h4,h5,h6⟩:=WQ hI ht H;rw[h1];rcases h2 with rfl|⟨rfl,rfl⟩
  .exact hn u av G' h' w' h3 h4 h5 h6
  .exact hn undef av G' h' w' h3 h4 h5 h6
 show o.uponIn (Fr r) 0 P a next Q' ((o.semAt r a.eval).run P w);unfold kM at H;split at H
 .rename_i c ho;split at H
  .rename_i f hf;have pJ:=oH hI ht f;have ql:=Dy hI ht c.args;rw[BV r a.eval o (fun c' e=>by rw[ho]at e;cases e)];split at H
   .rename_i g first cap hg
    rw[hg]at pJ;generalize qm:a.eval f=vf at pJ;cases pJ with
    |func h1 h2 h3 h4=>
     rename_i mj ml;obtain⟨np,qn⟩:=H;have jf:(execOp a.eval o).run P w= .ok (.enter g ((mj++c.args.map a.eval)++ml)) w:=by simp[execOp,ho,resolve,hf,qm,Deferred.ofValue,invoke,np]
     rw[jf,Oper.uponIn_enter];refine⟨fun e=>by simp[Fr]at e,?_⟩;refine CallsIn.mono (w7.2 (qn G w _ hI (b9.append (b9.append ⟨h1,h3⟩ ql) ⟨h2,h4⟩))) fun e w' hr=>?_;obtain⟨v,G',av,h',rfl,k1,k2,k3,k4⟩:=hr;exact hn v av G' h' w' k1 k2 k3 k4
   .rename_i l hl;rw[hl]at pJ;generalize qm:a.eval f=vf at pJ;cases pJ with
    | @yield _ B hb=>
     obtain⟨fn,tmps,assign,body,hy,QT⟩:=H G w _ _ hI ql hb;have jf:(execOp a.eval o).run P w= .ok (.round B fn tmps assign body) w:=by simp[execOp,ho,resolve,hf,qm,Deferred.ofValue,invoke,hy]
     rw[jf,Oper.uponIn_round];refine⟨fun e=>by simp[Fr]at e,RoundIn.mono (QT r) fun e w' hr=>?_⟩;obtain⟨v,G',av,h',rfl,k1,k2,k3,k4⟩:=hr;exact hn v av G' h' w' k1 k2 k3 k4
   .exact H.elim
  .exact plain H
 .exact plain H
theorem W9(hI:Inv Γ G h w){a:Act}(ht:TR N G σ a.tmps){o K p}(hp:Me P Γ σ h o.op K=some p)(H:p):(∀c,o.op≠ .defer c)/\wZ P Γ G w (execOp a.eval o) K:=by
 have e:=fun x=>oH (x:=x) hI ht;unfold Me at hp;unfold execOp;split at hp<;>rename_i ho<;>simp only[ho]
 .cases hp;exact⟨fun c e=>by simp at e,.val (ahp hI (e _) H)⟩
 .rename_i bop t x y _;split at hp
  .rename_i hy;cases hp;refine⟨fun c e=>by simp at e,?_⟩;unfold yB at hy;split at hy
   .exact .val (ahx hI (e _) H)
   .cases hy
  .split at hp
   .rename_i hy;cases hp;refine⟨fun c e=>by simp at e,?_⟩;unfold Ah at hy;split at hy
    .exact .val (ahF hI (e _) H)
    .cases hy
   .cases hp
 .split at hp
  .cases hp;exact⟨fun c e=>by simp at e,.val (ahB hI ht H)⟩
  .cases hp
 .rename_i c;split at hp
  .rename_i hc;split at hp
   .cases hp;refine⟨fun c e=>by simp at e,?_⟩;split at H
    .rename_i t u s x h1 h2;have Iy:c.argTypes= #[t,u]:=by grind
     have h2':c.args= #[s,x]:=by grind
     simp only[resolve,hc,pure_bind,invoke,Iy,h2'];rw[show(#[s,x]:Array Operand).map a.eval= #[a.eval s,a.eval x]from by simp];exact .val (ahy hI (e _) (e _) H)
    .exact H.elim
   .cases hp
  .cases hp
 .cases hp
theorem Iz{o K}(hI:Inv Γ G h w){a}(ht:TR N G σ a.tmps)(H:pQ P Γ o K σ h){r next Q'}
  (hn:∀u v G' h' w',G.le G'->Inv Γ G' h' w'->VR G' v u->K v σ h'->next (a.put o.dst u) w'):o.wpIn (Fr r) 0 P a w next Q':=by
 unfold pQ at H;split at H
 .rename_i p hp;unfold WT at hp;split at hp
  .rename_i c hc;split at hp
   .rename_i rv name BY;cases hp;have QU:=oH hI ht rv;have ql:=Dy hI ht c.args;refine⟨fun _ _=>trivial,?_⟩;show o.uponIn (Fr r) 0 P a next Q' ((o.semAt r a.eval).run P w);rw[BV r a.eval o (fun c' e=>by rw[hc]at e;cases e)];unfold WR at H;split at H
    .rename_i t v hv;obtain⟨f,x,hm,np,qn⟩:=H;rw[hv]at QU;generalize yF:a.eval rv=vr at QU;cases QU with
     | @iface _ _ u hu=>
      obtain⟨u',jf,hx⟩:=hm G w u hI hu;have jf:(execOp a.eval o).run P w= .ok (.enter f (#[u']++c.args.map a.eval)) w:=by
       have e1:(#[a.eval rv]++c.args.map a.eval)[0]? =some (Value.iface t u):=by rw[Array.getElem?_append_left (by simp)];simp[yF]
       have e2:(#[a.eval rv]++c.args.map a.eval).extract 1 (#[a.eval rv]++c.args.map a.eval).size=c.args.map a.eval:=by rw[Array.extract_append];simp
       simp only[execOp,hc,resolve,BY,pure_bind,invoke,e1,e2,callMethod];simp only[Sem.run_bind,run_program,Result.andThen_ok,jf];exact np _ _
      rw[jf,Oper.uponIn_enter];refine⟨fun e=>by simp[Fr]at e,?_⟩;refine CallsIn.mono (w7.2 (qn G w _ hI (b9.cons hx ql))) fun e w' hr=>?_;obtain⟨v,G',av,h',rfl,k1,k2,k3,k4⟩:=hr;exact hn v av G' h' w' k1 k2 k3 k4
    .exact H.elim
   .cases hp
  .cases hp
 split at H
 .rename_i p hp;obtain⟨hd,n,u,w',G',av,h',h1,h2,h3,h4,h5,h6⟩:=W9 (P:=P) (Γ:=Γ) hI ht hp H;refine⟨fun _ _=>trivial,?_⟩;show o.uponIn (Fr r) 0 P a next Q' ((o.semAt r a.eval).run P w);rw[BV r a.eval o hd,h1];rcases h2 with rfl|⟨rfl,rfl⟩
  .exact hn u av G' h' w' h3 h4 h5 h6
  .exact hn undef av G' h' w' h3 h4 h5 h6
 .exact Mf hI ht H hn
theorem IA{ops j}{t:Tmp}{b}{a:Act}(ht:TR N G σ a.tmps)(hj:(ops[j]?).bind (·.dst)=some t)(hb:lk σ t= .bool b):yielded ops a.tmps j=some b:=by
 have hv:=ht.2 t;rw[hb]at hv;unfold yielded;rw[hj];simp only[Option.bind_some];cases hx:a.tmps[t]? with
 |none=>
  rw[Array.getD_eq_getD_getElem?,hx]at hv;generalize hu:(Option.getD none undef)=u at hv;cases hv;simp[undef]at hu
 |some x=>
  rw[Array.getD_eq_getD_getElem?,hx]at hv;simp only[Option.getD_some]at hv;cases hv;rfl
theorem IB{v want A B C}(H:FI v want A B C):(∃b,v= .bool b/\(b=want->A)/\(b=!want->B))\/(v= .tuple []/\C):=by
 unfold FI at H;split at H
 .exact .inl ⟨_,rfl,H.1,H.2⟩
 .exact .inr ⟨rfl,H⟩
 .exact H.elim
theorem IC{ops j}{t:Tmp}{a:Act}(ht:TR N G σ a.tmps)(hj:(ops[j]?).bind (·.dst)=some t)(hb:lk σ t= .tuple []):yielded ops a.tmps j=none:=by
 have hv:=ht.2 t;rw[hb]at hv;unfold yielded;rw[hj];simp only[Option.bind_some];cases hx:a.tmps[t]? with
 |none=>rfl
 |some x=>
  rw[Array.getD_eq_getD_getElem?,hx]at hv;simp only[Option.getD_some]at hv;cases hv;rfl
theorem QV{ops j}{t:Tmp}{b}{a:Act}(ht:TR N G σ a.tmps)(hj:(ops[j]?).bind (·.dst)=some t)(hb:gv (lk σ t)=some b):yielded ops a.tmps j=b:=by
 unfold gv at hb;split at hb
 .rename_i c hc;cases hb;exact IA ht hj hc
 .rename_i hc;cases hb;exact IC ht hj hc
 .cases hb
theorem BZ:∀(l:List Oper) (j:Nat),sE l j=(l[j]?).bind (·.dst)
 |[],j=>by simp[sE]
 |o::r,0=>rfl
 |o::r,j+1=>by simpa [sE]using BZ r j
theorem TR.same{a:Act}(ht:TR N G σ a.tmps){t:Tmp}{v}(e:lk σ t=v):TR N G ((t,v)::σ) a.tmps:=⟨ht.1,fun i=>by
 simp only[lk];split
 .rename_i hi;subst hi;rw[<-e];exact ht.2 i
 .exact ht.2 i⟩
theorem W_{v want A B}(H:w8 v want A B):∃b,v= .bool b/\(b=want->A)/\(b=!want->B):=by cases v<;>first|exact H.elim|exact⟨_,rfl,H.1,H.2⟩
theorem Xa{ops:Array Oper}{K G0 ds r}:∀(l:List Nat) (σ) (h) (G) (w) (a),(∀i∈l,∀o,ops[i]? =some o->∀x,o.dst=some x->x<N)->
  G0.le G->Inv Γ G h w->TR N G σ a.tmps->a.defers=ds->ke P Γ ops.toList K (l.filterMap (ops[·]?)) σ h->wpOpsIn (Fr r) 0 P ops (fA Γ N G0 ds (iP K fun _ _ _=>False)) l a w:=by
 intro l;induction l with
 |nil=>
  intro σ h G w a _ hle hI ht hd H;exact⟨G,σ,h,[],hle,hI,ht,by simpa using hd,fun D hD=>by simp at hD,List.nodup_nil,H⟩
 |cons i rest ih=>
  intro σ h G w a kx hle hI ht hd H;rw[wpOpsIn_cons];unfold wpOpIn;cases ho:ops[i]? with
  |none=>
   grind
  |some o=>
   simp only[List.filterMap_cons,ho]at H;have ld:=kx i (List.mem_cons_self ..) o ho;have run:∀σ,TR N G σ a.tmps->pQ P Γ o (fun v σ h=>ke P Γ ops.toList K (rest.filterMap (ops[·]?)) (put o.dst v σ) h) σ h->o.wpIn (Fr r) 0 P a w (wpOpsIn (Fr r) 0 P ops (fA Γ N G0 ds (iP K fun _ _ _=>False)) rest) (fA Γ N G0 ds (iP K fun _ _ _=>False)):=fun σ ht H=>
    Iz hI ht H fun u v G' h' w' h1 h2 h3 h4=>by exact ih _ h' G' w' _ (fun j hj=>kx j (List.mem_cons_of_mem _ hj)) (hle.trans h1) h2 ((ht.mono h1).put ld h3) ((put_defers a o.dst u).trans hd) h4
   have pass:∀σ,TR N G σ a.tmps->ke P Γ ops.toList K (rest.filterMap (ops[·]?)) (put o.dst (.tuple []) σ) h->(∀f,o.about P w a.eval=some f->(Fr r).fn f)/\wpOpsIn (Fr r) 0 P ops (fA Γ N G0 ds (iP K fun _ _ _=>False)) rest (a.put o.dst undef) w:=fun σ ht H=>by exact⟨fun _ _=>trivial,ih _ h G w _ (fun j hj=>kx j (List.mem_cons_of_mem _ hj)) hle hI (ht.put ld (VR.undef G)) ((put_defers a o.dst undef).trans hd) H⟩
   simp only[ke]at H;unfold Region.wanted;split at H
   .grind
   .rename_i j want hg;simp only[hg];unfold Aj at H;split at H
    .rename_i t hj;rw[BZ,Array.getElem?_toList]at hj;rcases IB H with⟨b,hb,H1,H2⟩|⟨hb,H⟩
     .rw[IA ht hj hb];by_cases rF:b=want
      .subst rF;simp only[beq_self_eq_true,if_true];exact run _ (ht.same hb) (H1 rfl)
      .have:(some b==some want)=false:=by cases b<;>cases want<;>simp_all
       simp only[this,Bool.false_eq_true,if_false];have nI:b=!want:=by cases b<;>cases want<;>simp_all
       exact pass _ (ht.same (hb.trans (by rw[nI]))) (H2 nI)
     .rw[IC ht hj hb];grind
    .exact H.elim
theorem ID{α:Type}(l:List α):(List.range l.length).filterMap (fun i=>l[i]?)=l:=by
 induction l with
 |nil=>rfl
 |cons x l ih=>
  rw[List.length_cons,List.range_succ_eq_map,List.filterMap_cons,List.filterMap_map];simp only[List.getElem?_cons_zero];congr 1
theorem Dz(ops:Array Oper):(List.range ops.size).filterMap (ops[·]?)=ops.toList:=by have:=ID ops.toList;grind
theorem ahW{id ops}(hd:mi N ops=true)(H:ke P Γ ops.toList (fun σ h=>Q .normal σ h) ops.toList σ h):bw P Γ N (.region id ops false) Q σ h:=fun r G w a hr hI ht=>by
 refine wpIn_mono (wpIn_region (Q:=fA Γ N G a.defers (iP (fun σ h=>Q .normal σ h) fun _ _ _=>False)) ?_) fun e a' w' hp=>?_
 .refine Xa (List.range ops.size) σ h G w a (fun i _ o ho x hx=>?_) (Gh.le.refl G) hI ht rfl (by rw[Dz];exact H);have:=List.all_eq_true.1 hd o (by simpa using Array.mem_of_getElem? ho);simp_all
 .refine hp.mono fun e σ h hq=>?_;cases e<;>first|exact hq|exact hq.elim
end
inductive RB(n:Nat):AV->Prop
 |top:RB n .top
 |int (k:IntKind) (x:Int):RB n (.int k x)
 |bool (b:Bool):RB n (.bool b)
 |str (s:ByteArray):RB n (.str s)
 |rj:RB n (.ptr none)
 |ptr {i o:Nat} (h:i<n):RB n (.ptr (some (i,o)))
 |bS {cs:List AV} (h:∀(j:Nat) (c:AV),cs[j]? =some c->RB n c):RB n (.bS cs)
 |sl {rows:List AV} {own:Own} (h:∀(k:Nat) (r:AV) (j:Nat) (c:AV),rows[k]? =some r->r.cells[j]? =some c->RB n c) (ho:∀i,own= .bN i->i<n):RB n (.sl rows own)
 |ms {i off len cap sz:Nat} (h:i<n):RB n (.ms i off len cap sz)
 |rm:RB n (.map none)
 |map {i:Nat} (h:i<n):RB n (.map (some i))
 |func {f:FuncId} {fs cs:List AV} (h1:∀(j:Nat) (c:AV),fs[j]? =some c->RB n c) (h2:∀(j:Nat) (c:AV),cs[j]? =some c->RB n c):RB n (.func f fs cs)
 |yield {l:Nat} (h:l<n):RB n (.yield l)
 |nilFunc:RB n .nilFunc
 |iface {t:TypeId} {a:AV} (h:RB n a):RB n (.iface t a)
 |nilIface:RB n .nilIface
 |agg {cs:List AV} (h:∀(j:Nat) (c:AV),cs[j]? =some c->RB n c):RB n (.agg cs)
 |tuple {cs:List AV} (h:∀(j:Nat) (c:AV),cs[j]? =some c->RB n c):RB n (.tuple cs)
def bB(n:Nat)(cs:List AV):Prop:=∀(j:Nat) (c:AV),cs[j]? =some c->RB n c
theorem bB.nil(n):bB n []:=fun j c e=>by simp at e
theorem bB.cons{n a l}(h:RB n a)(k:bB n l):bB n (a::l):=fun j c e=>by
 cases j with
 |zero=>simp at e;subst e;exact h
 |succ j=>exact k j c (by simpa using e)
theorem RB.tuple'{n l}(h:bB n l):RB n (.tuple l):= .tuple h
theorem RB.Al{n l}(h:bB n l):RB n (.agg l):= .agg h
theorem bB.cells{n a}(h:RB n a):bB n a.cells:=by
 cases h with
 |agg h=>exact h
 |top=>exact .cons .top (.nil n)
 |int k x=>exact .cons (.int k x) (.nil n)
 |bool b=>exact .cons (.bool b) (.nil n)
 |str s=>exact .cons (.str s) (.nil n)
 |rj=>exact .cons .rj (.nil n)
 |ptr h=>exact .cons (.ptr h) (.nil n)
 |bS h=>exact .cons (.bS h) (.nil n)
 |sl h ho=>exact .cons (.sl h ho) (.nil n)
 |ms h=>exact .cons (.ms h) (.nil n)
 |rm=>exact .cons .rm (.nil n)
 |map h=>exact .cons (.map h) (.nil n)
 |func h1 h2=>exact .cons (.func h1 h2) (.nil n)
 |yield h=>exact .cons (.yield h) (.nil n)
 |nilFunc=>exact .cons .nilFunc (.nil n)
 |iface h=>exact .cons (.iface h) (.nil n)
 |nilIface=>exact .cons .nilIface (.nil n)
 |tuple h=>exact .cons (.tuple h) (.nil n)
theorem RB.qo{n rows}(h:∀r∈rows,RB n r):RB n (.sl rows .free):=
 .sl (fun _ r j c e e'=>bB.cells (h r (List.mem_of_getElem? e)) j c e') (fun _ e=>by cases e)
theorem RB.Xb{n rows}(h:∀r∈rows,RB n r):RB n (.sl rows .full):=
 .sl (fun _ r j c e e'=>bB.cells (h r (List.mem_of_getElem? e)) j c e') (fun _ e=>by cases e)
structure Gh.sF(G:Gh)(n:Nat):Prop where
 ρ:∀i b,G.ρ i=some b->i<n
 ar:∀i r,G.ar i=some r->i<n
theorem VR.rb{G n}(hd:G.sF n){a v}(h:VR G a v):RB n a:=by
 induction h with
 |top v=>exact .top
 |int k x=>exact .int k x
 |bool b=>exact .bool b
 |str s=>exact .str s
 |rj=>exact .rj
 |ptr h=>exact .ptr (hd.ρ _ _ h)
 |bS vals hF _ ih=>exact .bS ih
 |sl vals jc iT cj hF _ cP ih=>exact .sl ih (fun i e=>by subst e;obtain⟨r,hr,_⟩:=cP;exact hd.ar i r hr)
 |ms h=>exact .ms (hd.ρ _ _ h)
 |rm=>exact .rm
 |map h=>exact .map (hd.ρ _ _ h)
 |func hf hc _ _ i1 i2=>exact .func i1 i2
 |yield h=>exact .yield (hd.ρ _ _ h)
 |nilFunc=>exact .nilFunc
 |iface t _ ih=>exact .iface ih
 |nilIface=>exact .nilIface
 |agg hl _ ih=>exact .agg ih
 |tuple hl _ ih=>exact .tuple ih
def Gh.cut(G:Gh)(n:Nat):Gh:={G with ρ:=fun i=>if i<n then G.ρ i else none,ar:=fun i=>if i<n then G.ar i else none}
theorem Gh.w_{G:Gh}{n i b}(h:G.ρ i=some b)(hi:i<n):(G.cut n).ρ i=some b:=by simp[Gh.cut,hi,h]
theorem Gh.DA{G:Gh}{n i b}(h:(G.cut n).ρ i=some b):G.ρ i=some b/\i<n:=by simp only[Gh.cut]at h;grind
theorem Gh.Mg{G:Gh}{n i r}(h:(G.cut n).ar i=some r):G.ar i=some r/\i<n:=by simp only[Gh.cut]at h;grind
theorem VR.cut{G n a v}(h:VR G a v)(hb:RB n a):VR (G.cut n) a v:=by
 induction h with
 |top v=>exact .top v
 |int k x=>exact .int k x
 |bool b=>exact .bool b
 |str s=>exact .str s
 |rj=>exact .rj
 |ptr h=>cases hb with
  |ptr hi=>exact .ptr (Gh.w_ h hi)
 |bS vals hF _ ih=>cases hb with
  |bS hb=>exact .bS vals hF (fun j c e=>ih j c e (hb j c e))
 |sl vals jc iT cj hF _ cP ih=>cases hb with
  |sl hb ho=>
   rename_i rows own a cap sz _;refine .sl vals jc iT cj hF (fun k r j c e e'=>ih k r j c e e' (hb k r j c e e')) ?_;cases own with
   |free=>trivial
   |full=>exact cP
   |bN i=>
    obtain⟨r,h1,h2,h3⟩:=cP;exact⟨r,by simp[Gh.cut,ho i rfl,h1],h2,h3⟩
 |ms h=>cases hb with
  |ms hi=>exact .ms (Gh.w_ h hi)
 |rm=>exact .rm
 |map h=>cases hb with
  |map hi=>exact .map (Gh.w_ h hi)
 |func hf hc _ _ i1 i2=>cases hb with
  |func b1 b2=>exact .func hf hc (fun j c e=>i1 j c e (b1 j c e)) (fun j c e=>i2 j c e (b2 j c e))
 |yield h=>cases hb with
  |yield hi=>exact .yield (Gh.w_ h hi)
 |nilFunc=>exact .nilFunc
 |iface t _ ih=>cases hb with
  |iface hb=>exact .iface t (ih hb)
 |nilIface=>exact .nilIface
 |agg hl _ ih=>cases hb with
  |agg hb=>exact .agg hl (fun j c e=>ih j c e (hb j c e))
 |tuple hl _ ih=>cases hb with
  |tuple hb=>exact .tuple hl (fun j c e=>ih j c e (hb j c e))
def Mh(n:Nat):cO->Prop
 | .row cs _=>bB n cs
 | .map cB _=>∀(j:Nat) (e:Nat×AV×AV),cB[j]? =some e->RB n e.2.1/\RB n e.2.2
 | .iter m _ _=>∀i,m=some i->i<n
 | .loop _ _ li=>∀i,RB n (lk li.σ i)
 |_=>True
section
variable {P:Program} {Γ:GG} {G:Gh} {h:AH} {w:World} {N:Nat} {σ:Tm} {Q:Exit->Tm->AH->Prop}
theorem Inv.sF(hI:Inv Γ G h w):G.sF h.length:=⟨hI.ij,hI.jv⟩
theorem Inv.IE(hI:Inv Γ G h w){i:Nat}{ob}(e:h[i]? =some ob):Mh h.length ob:=by
 have ho:=hI.obj i ob e;cases ob with
 |row cs T=>obtain⟨b,vals,_,_,hv⟩:=ho;exact fun j c e=>by obtain⟨v,_,k⟩:=hv.get e;exact k.rb hI.sF
 |map cB clk=>
  obtain⟨b,es,_,_,hl,hv⟩:=ho;intro j e he;obtain⟨x,hx⟩:∃x,es[j]? =some x:=⟨_,Array.getElem?_eq_getElem (by grind)⟩;exact⟨(hv j e x he hx).2.1.rb hI.sF,(hv j e x he hx).2.2.rb hI.sF⟩
 |iter m clk seen=>
  obtain⟨b,mb,_,_,h3⟩:=ho;intro i hi;subst hi;obtain⟨c,_,hc⟩:=h3;exact hI.ij _ _ hc
 |loop st C9 li=>obtain⟨b,l,_,_,_,_,_,_,_,ht,_⟩:=ho;exact fun i=>(ht.2 i).rb hI.sF
 |Fg s pos=>trivial
 |bN n=>trivial
 |dead=>trivial
 |hole=>trivial
 |frozen=>trivial
theorem Inv.drop{l}(hI:Inv Γ G (h++l) w)(pL:∀(i:Nat) (ob),h[i]? =some ob->Mh h.length ob)(hg:∀(g) (cs),Γ g=some cs->RB h.length (.bS cs)):Inv Γ (G.cut h.length) h w where
 below:=hI.below
 k_:=hI.k_
 kJ:=hI.kJ
 fix:=hI.fix
 obj:=fun i ob e=>by
  have hi:=(List.getElem?_eq_some_iff.1 e).1;have ho:=hI.obj i ob (by grind);have hb:=pL i ob e;cases ob with
  |row cs T=>obtain⟨b,vals,h1,h2,hv⟩:=ho;exact⟨b,vals,Gh.w_ h1 hi,h2,hv.1,fun j c e=>(hv.2 j c e).cut (hb j c e)⟩
  |map cB clk=>
   obtain⟨b,es,h1,h2,hl,hv⟩:=ho;exact⟨b,es,Gh.w_ h1 hi,h2,hl,fun j e x he hx=>⟨(hv j e x he hx).1,(hv j e x he hx).2.1.cut (hb j e he).1,(hv j e x he hx).2.2.cut (hb j e he).2⟩⟩
  |iter m clk seen=>
   obtain⟨b,mb,h1,h2,h3⟩:=ho;refine⟨b,mb,Gh.w_ h1 hi,h2,?_⟩;cases m with
   |none=>exact h3
   |some j=>obtain⟨c,e1,e2⟩:=h3;exact⟨c,e1,Gh.w_ e2 (hb j rfl)⟩
  |Fg s pos=>obtain⟨b,h1,h2⟩:=ho;exact⟨b,Gh.w_ h1 hi,h2⟩
  |bN n=>obtain⟨r,h1,h2⟩:=ho;exact⟨r,by simp[Gh.cut,hi,h1],h2⟩
  |loop st C9 li=>
   obtain⟨b,lp,h1,h2,h3,h4,h5,h6,h7,h8,h9,sr⟩:=ho;exact⟨b,lp,Gh.w_ h1 hi,h2,h3,h4,h5,h6,h7,⟨h8.1,fun i=>(h8.2 i).cut (hb i)⟩,h9,sr⟩
  |dead=>trivial
  |hole=>exact⟨by simp[Gh.cut,ho.1],by simp[Gh.cut,ho.2]⟩
  |frozen=>trivial
 ij:=fun i b e=>(Gh.DA e).2
 jv:=fun i r e=>(Gh.Mg e).2
 inj:=fun i j b e e'=>hI.inj i j b (Gh.DA e).1 (Gh.DA e').1
 base:=fun i b e=>hI.base i b (Gh.DA e).1
 sep:=fun i b o v hf e e'=>hI.sep i b o v (fun o7=>hf (by rw[List.getElem?_append_left (Gh.DA e).2]at o7;exact o7)) (Gh.DA e).1 e'
 jw:=fun i r b c sz T e e'=>(hI.jw i r b c sz T (Gh.Mg e).1 e').mono (G':=G.cut h.length) rfl rfl (fun _ _ h=>h) (fun j e=>(Gh.DA e).1)
 kb:=fun i j r r' b c sz T c' rp T' e1 e2 e3 e4=>hI.kb i j r r' b c sz T c' rp T' (Gh.Mg e1).1 (Gh.Mg e2).1 e3 e4
 lp:=hI.lp
 jx:=hI.jx
 gu:=hI.gu
 kn:=fun g cs e=>(hI.kn g cs e).cut (hg g cs e)
theorem Gh.IF{G G':Gh}(hle:G.le G'){n}(hd:G.sF n):G.le (G'.cut n):=
 ⟨hle.w0,fun i b e=>Gh.w_ (hle.ρ i b e) (hd.ρ i b e),hle.F,fun i r e=>by obtain⟨r',h1,h2⟩:=hle.ar i r e;exact⟨r',by simp[Gh.cut,hd.ar i r e,h1],h2⟩,hle.bJ,hle.ds,hle.ym⟩
theorem Inv.IG(hI:Inv Γ G h w)(g cs)(e:Γ g=some cs):RB h.length (.bS cs):=(hI.kn g cs e).rb hI.sF
theorem az.drop{f args}{R:AV->Prop}(H:az P Γ f args h fun v h'=>(∃l,h'=h++l)/\RB h.length v/\R v):az P Γ f args h fun v h'=>h'=h/\R v:=
 ⟨H.1,fun G w vs hI hv=>(H.2 G w vs hI hv).mono fun e w' hr=>by obtain⟨v,G',av,h',rfl,h2,h3,h4,⟨l,rfl⟩,h6,h7⟩:=hr;exact⟨v,G'.cut h.length,av,h,rfl,Gh.IF h2 hI.sF,h3.drop (fun i ob e=>hI.IE e) hI.IG,h4.cut h6,rfl,h7⟩⟩
theorem VR.same{G G'}(dI:G'.ρ=G.ρ)(hF:G'.F=G.F)(dU:G'.ar=G.ar){a v}(hv:VR G a v):VR G' a v:=by
 induction hv with
 |top v=>exact .top v
 |int k x=>exact .int k x
 |bool b=>exact .bool b
 |str s=>exact .str s
 |rj=>exact .rj
 |ptr h=>exact .ptr (by rw[dI];exact h)
 |bS vals QX _ ih=>exact .bS vals (by rw[hF];exact QX) ih
 |sl vals jc iT cj QX _ cP ih=>
  rename_i rows own a cap sz _;refine .sl vals jc iT cj (by rw[hF];exact QX) ih ?_;cases own with
  |free=>trivial
  |full=>exact cP
  |bN i=>obtain⟨r,h1,h2⟩:=cP;exact⟨r,by rw[dU];exact h1,h2⟩
 |ms h=>exact .ms (by rw[dI];exact h)
 |rm=>exact .rm
 |map h=>exact .map (by rw[dI];exact h)
 |func hf hc _ _ i1 i2=>exact .func hf hc i1 i2
 |yield h=>exact .yield (by rw[dI];exact h)
 |nilFunc=>exact .nilFunc
 |iface t _ ih=>exact .iface t ih
 |nilIface=>exact .nilIface
 |agg hl _ ih=>exact .agg hl ih
 |tuple hl _ ih=>exact .tuple hl ih
theorem Inv.Mi(hI:Inv Γ G h w){D}(hD:G.ds D)(hN:∀b,G.bJ b≠some D):Inv Γ {G with ds:=fun x=>G.ds x/\x≠D} h (w.putObj D (.deferred none)):=by
 have hd:=(hI.gu D hD).1;have Am:∀k,k≠D->(w.putObj D (.deferred none)).heap[k]? =w.heap[k]? :=fun k hk=>World.putObj_heap_other hk;generalize jd:({G with ds:=fun x=>G.ds x/\x≠D}:Gh)=G';have hF:G'.F=G.F:=by subst jd;rfl
 have dI:G'.ρ=G.ρ:=by subst jd;rfl
 have dU:G'.ar=G.ar:=by subst jd;rfl
 have oh:G'.bJ=G.bJ:=by subst jd;rfl
 have o6:G'.w0=G.w0:=by subst jd;rfl
 have tF:∀x,G'.ds x<->G.ds x/\x≠D:=fun x=>by subst jd;exact Iff.rfl
 have xa:∀{a:AV} {v:Value},VR G a v->VR G' a v:=fun hv=>hv.same dI hF dU;have cV:∀{b:Nat} {o:Obj},w.heap[b]? =some o->(∀x,o≠ .deferred x)->b≠D:=fun hb ho e=>by grind
 exact {
  k_:=by rw[o6];exact hI.k_
  kJ:=by rw[o6];exact hI.kJ
  below:=by rw[o6];exact hI.below.trans ⟨rfl,rfl,rfl,by simp[World.putObj],fun k hk=>Am k (fun e=>by have:=(hI.gu D hD).2;omega)⟩
  fix:=fun b o v e=>by rw[hF]at e;have hc:=hI.fix b o v e;refine(BC (Am b (fun e'=>?_))).trans hc;subst e';simp[World.cell?,hd]at hc
  obj:=fun i ob e=>by
   have ho:=hI.obj i ob e;cases ob with
   |row cs T=>obtain⟨b,vals,h1,h2,hv⟩:=ho;exact⟨b,vals,by rw[dI];exact h1,(Am b (cV h2 (by simp))).trans h2,hv.1,fun j c e=>xa (hv.2 j c e)⟩
   |map cB clk=>
    obtain⟨b,es,h1,h2,hl,hv⟩:=ho;exact⟨b,es,by rw[dI];exact h1,(Am b (cV h2 (by simp))).trans h2,hl,fun j e x he hx=>⟨(hv j e x he hx).1,xa (hv j e x he hx).2.1,xa (hv j e x he hx).2.2⟩⟩
   |iter m clk seen=>
    obtain⟨b,mb,h1,h2,h3⟩:=ho;refine⟨b,mb,by rw[dI];exact h1,(Am b (cV h2 (by simp))).trans h2,?_⟩;grind
   |Fg s pos=>obtain⟨b,h1,h2⟩:=ho;exact⟨b,by rw[dI];exact h1,(Am b (cV h2 (by simp))).trans h2⟩
   |bN n=>obtain⟨r,h1,h2⟩:=ho;exact⟨r,by rw[dU];exact h1,h2⟩
   |loop st C9 li=>
    obtain⟨b,lp,h1,h2,h3,h4,h5,h6,h7,h8,h9,sr⟩:=ho;exact⟨b,lp,by rw[dI];exact h1,(Am b (cV h2 (by simp))).trans h2,h3,h4,h5,h6,h7,⟨h8.1,fun i=>xa (h8.2 i)⟩,by rw[oh];exact h9,sr⟩
   |dead=>trivial
   |hole=>exact⟨by rw[dI];exact ho.1,by rw[dU];exact ho.2⟩
   |frozen=>trivial
  ij:=by rw[dI];exact hI.ij
  jv:=by rw[dU];exact hI.jv
  inj:=by rw[dI];exact hI.inj
  base:=by rw[dI,o6];exact fun i b e=>⟨(hI.base i b e).1,by simpa [World.putObj]using(hI.base i b e).2⟩
  sep:=by rw[dI,hF];exact hI.sep
  jw:=fun i r b c sz T e e'=>by rw[dU]at e;obtain⟨cells,k1,_⟩:=(hI.jw i r b c sz T e e').sn;exact(hI.jw i r b c sz T e e').mono o6 (Am b (cV k1 (by simp))) (fun o v h=>by rwa [hF]at h) (fun j h=>by rwa [dI]at h)
  kb:=by rw[dU];exact hI.kb
  lp:=fun b D' e=>by rw[oh]at e;obtain⟨l,h1,h2,h3⟩:=hI.lp b D' e;grind
  jx:=by rw[oh,o6];exact hI.jx
  gu:=fun D' e=>by obtain⟨h1,h2⟩:=(tF D').1 e;rw[o6];exact⟨(Am D' h2).trans (hI.gu D' h1).1,(hI.gu D' h1).2⟩
  kn:=fun g cs e=>xa (hI.kn g cs e)}
theorem Gh.Mj{G G':Gh}(hle:G.le G'){D}(hD:¬G.ds D):G.le {G' with ds:=fun x=>G'.ds x/\x≠D}:=
 ⟨hle.w0,hle.ρ,hle.F,hle.ar,hle.bJ,fun x e=>⟨hle.ds x e,fun e'=>hD (e'▸e)⟩,hle.ym⟩
def lE(P:Program)(σ:Tm)(h:AH):List ResultVar->(List AV->Prop)->Prop
 |[],k=>k []
 | .tmp t::r,k=>lE P σ h r fun vs=>k (lk σ t::vs)
 | .cell a t::r,k=>oI P t (lk σ a) h fun v _=>lE P σ h r fun vs=>k (v::vs)
def oneOf:List AV->AV
 |[v]=>v
 |vs=> .tuple vs
def vQ(P:Program)(rs:List ResultVar)(R:AV->AH->Prop)(e:Exit)(σ:Tm)(h:AH):Prop:=
 (e= .ret\/e= .normal)/\lE P σ h rs fun vs=>R (oneOf vs) h
def II(t:Array Value):ResultVar->Sem Value
 | .tmp x=>pure (t.getD x undef)
 | .cell a ty=>do loadVar ty (<-asAddr (t.getD a undef))
theorem Xc(fn:Func)(t:Array Value):results fn t=(do let vs<-fn.results.mapM (II t);pure (if h:vs.size=1 then vs[0]else .tuple vs)):=rfl
theorem ahX(hI:Inv Γ G h w){t}(ht:TR N G σ t):∀(rs) {k},lE P σ h rs k->
  ∃us vs,(rs.mapM (II t)).run P w= .ok us w/\us.length=vs.length/\b9 G vs us.toArray/\k vs:=by
 intro rs;induction rs with
 |nil=>intro k H;exact⟨[],[],rfl,rfl,b9.nil G,H⟩
 |cons x r ih=>
  intro k H;cases x with
  |tmp x=>
   obtain⟨us,vs,h1,h2,h3,h4⟩:=ih (k:=fun vs=>k (lk σ x::vs)) H;refine⟨t.getD x undef::us,lk σ x::vs,by simp only[List.mapM_cons,II,Sem.run_bind,Sem.run_pure,Result.andThen_ok,h1],by simp[h2],?_,h4⟩;have:=b9.cons (ht.2 x) h3;simpa using this
  |cell a ty=>
   simp only[lE]at H;obtain⟨ad,u,av,e,r1,hv,H⟩:=P9 (P:=P) hI (ht.2 a) H;obtain⟨us,vs,h1,h2,h3,h4⟩:=ih (k:=fun vs=>k (av::vs)) H;refine⟨u::us,av::vs,?_,by simp[h2],?_,h4⟩
   .have hr:(II t (.cell a ty)).run P w= .ok u w:=by simp only[II,e,asAddr,pure_bind,r1]
    simp_all
   have:=b9.cons hv h3;simpa using this
theorem Xd(hI:Inv Γ G h w){t}(ht:TR N G σ t){fn rs}(fJ:fn.results=rs.toArray){K:AV->Prop}(H:lE P σ h rs fun vs=>K (oneOf vs)):
  ∃u av,(results fn t).run P w= .ok u w/\VR G av u/\K av:=by
 obtain⟨us,vs,h1,h2,h3,h4⟩:=ahX (P:=P) hI ht rs H;refine⟨if h:us.toArray.size=1 then us.toArray[0]else .tuple us.toArray,oneOf vs,?_,?_,h4⟩
 .rw[Xc,fJ,Array.mapM_eq_mapM_toList];simp_all
 .match vs,us,h2,h3 with
  |[],[],_,h3=>exact .tuple h3.1 h3.2
  |[v],[u],_,h3=>
   obtain⟨u',e1,e2⟩:=h3.get (j:=0) rfl;simp at e1;subst e1;simpa [oneOf]using e2
  |v::v'::vs,u::u'::us,_,h3=>
   simp only[oneOf,List.size_toArray,List.length_cons];rw[dif_neg (by omega)];exact .tuple h3.1 h3.2
def nJ:Nat->List AV->Tm
 |_,[]=>[]
 |i,a::r=>(i,a)::nJ (i+1) r
theorem Xe:∀(cD:List AV) (i j:Nat),lk (nJ i cD) j=if i<=j then(cD[j-i]?).getD .top else .top
 |[],i,j=>by simp[nJ,lk]
 |a::r,i,j=>by
  simp only[nJ,lk];by_cases e:j=i
  .subst e;simp
  .rw[if_neg e,Xe r (i+1) j];grind
theorem FJ{cD vs}(hv:b9 G cD vs)(hN:cD.length<=N):TR N G (nJ 0 cD) (vs++Array.replicate (N-vs.size) undef):=by
 have hs:=hv.1;refine⟨by simp;omega,fun i=>?_⟩;rw[Xe,if_pos (Nat.zero_le _),Nat.sub_zero];cases e:cD[i]? with
 |none=>exact .top _
 |some c=>
  obtain⟨u,h1,h2⟩:=hv.get e;have hi:i<vs.size:=(Array.getElem?_eq_some_iff.1 h1).1;simp only[Option.getD_some];rw[Array.getD_eq_getD_getElem?,Array.getElem?_append_left hi,h1];exact h2
theorem xb{f fn c}(hf:P.funcs[f]? =some fn)(hb:fn.body=some c)(hn:(fn.name== "runtime.NumGoroutine")=false)(vs w):(callFunc f vs).run P w= .ok (.enter f vs) w:=by
 have H9:¬fn.name= "runtime.NumGoroutine":=by simpa using hn
 simp[callFunc,hf,hb,H9]
theorem QY{fn t G0 R rs}(fJ:fn.results=rs.toArray):∀(Ds:List Nat) (G) (h) (w),G0.le G->Inv Γ G h w->TR N G σ t->(∀D∈Ds,¬G0.ds D/\G.ds D/\∀b,G.bJ b≠some D)->Ds.Nodup->
  lE P σ h rs (fun vs=>R (oneOf vs) h)->LeavesInM (Fr none) 0 P fn t (og Γ G0 R) (Ds.map mark) .returning w:=by
 intro Ds;induction Ds with
 |nil=>
  intro G h w hle hI ht _ _ H;obtain⟨u,av,h1,h2,h3⟩:=Xd (P:=P) hI ht fJ (K:=fun v=>R v h) H;exact⟨u,h1,u,G,av,h,rfl,hle,hI,h2,h3⟩
 |cons D Ds ih=>
  intro G h w hle hI ht hD iF H;obtain⟨d1,d2,d3⟩:=hD D (List.mem_cons_self ..);refine⟨by simp,.inl ⟨D,_,rfl,run_takeDeferred (hI.gu D d2).1,?_⟩⟩;have IJ:=Gh.Mj hle d1;have eA:=hI.Mi d2 d3;rw[List.nodup_cons]at iF;refine ih _ h _ IJ eA ⟨ht.1,fun i=>?_⟩ (fun D' FK=>?_) iF.2 H
  .refine VR.same (G:=G) ?_ ?_ ?_ (ht.2 i)<;>rfl
  grind
theorem Ml{f fn c args rs R}(hf:P.funcs[f]? =some fn)(hb:fn.body=some c)(hn:(fn.name== "runtime.NumGoroutine")=false)
  (hN:Nat.ble args.length fn.ntmps=true)(fJ:fn.results=rs.toArray)(H:bw P Γ fn.ntmps c (vQ P rs R) (nJ 0 args) h):az P Γ f args h R:=by
 refine⟨fun vs w=>xb hf hb hn vs w,fun G w vs hI hv=>?_⟩;refine(w7 (r:=none) (n:=0)).1 (callsIn_of_wp_marks hf hb trivial ?_);refine wpIn_mono (H none G w _ (fun l e=>by cases e) hI (FJ hv (Nat.le_of_ble_eq_true hN))) fun e a' w' hp=>?_;obtain⟨G',σ',h',Ds,h1,h2,h3,h4,h5,h6,h7,h8⟩:=hp;simp only[List.append_nil]at h4;rcases h7 with rfl|rfl
 .show LeavesInM (Fr none) 0 P fn a'.tmps (og Γ G R) a'.defers .returning w';rw[h4];exact QY fJ Ds G' h' w' h1 h2 h3 h5 h6 h8
 .show LeavesInM (Fr none) 0 P fn a'.tmps (og Γ G R) a'.defers .returning w';rw[h4];exact QY fJ Ds G' h' w' h1 h2 h3 h5 h6 h8
end
section
variable {P:Program} {Γ:GG} {G:Gh} {h:AH} {w:World} {N:Nat} {σ σ':Tm} {Q:Exit->Tm->AH->Prop}
def FL(op:Op):List Tmp:=op.operands.toList.filterMap fun| .tmp t=>some t|_=>none
theorem Xf{op t}(h:Operand.tmp t∈op.operands.toList):t∈FL op:=List.mem_filterMap.2 ⟨.tmp t,h,rfl⟩
theorem An{x:Operand}(H:∀t,x= .tmp t->lk σ t=lk σ' t):ev Γ σ x=ev Γ σ' x:=by
 cases x with
 |tmp t=>exact H t rfl
 |const _=>rfl
 |global _=>rfl
 |func _=>rfl
theorem Mm{xs:List Operand}(H:∀t,Operand.tmp t∈xs->lk σ t=lk σ' t):xs.map (ev Γ σ)=xs.map (ev Γ σ'):=
 List.map_congr_left fun x hx=>An fun t e=>H t (e▸hx)
theorem QZ{x:Option Operand}(H:∀t,x=some (.tmp t)->lk σ t=lk σ' t):x.map (ev Γ σ)=x.map (ev Γ σ'):=by
 cases x with
 |none=>rfl
 |some x=>simp only[Option.map_some];rw[An fun t e=>H t (by rw[e])]
theorem Xg{ps}(H:∀t,Operand.tmp t∈ps.toList.map (·.2)->lk σ t=lk σ' t):jV Γ σ ps=jV Γ σ' ps:=by unfold jV;refine List.map_congr_left fun p hp=>?_;obtain⟨i,x⟩:=p;simp only;rw[An fun t e=>H t (List.mem_map.2 ⟨(i,x),hp,e⟩)]
theorem Xh{op K}(H:∀t∈FL op,lk σ t=lk σ' t):dS P Γ σ h op K=dS P Γ σ' h op K:=by
 have H':∀t,Operand.tmp t∈op.operands.toList->lk σ t=lk σ' t:=fun t ht=>H t (Xf ht);cases op<;>try rfl
 case makeFunc fn first captured=>
  cases fn<;>try rfl
  simp only[dS];rw[Mm fun t ht=>H' t (by simp[Op.operands];exact .inl (by simpa using ht)),Mm (xs:=captured.toList) fun t ht=>H' t (by simp[Op.operands];exact .inr (by simpa using ht))]
 case makeMap t r=>cases r<;>rfl
 case call c=>
  simp only[dS];cases hc:c.callee<;>try rfl
  simp only;rw[Mm fun t ht=>H' t (by simp[Op.operands,Call.operands,hc];simpa using ht)]
 case slice t x lo hi mx=>
  simp only[dS];rw[An fun t e=>H' t (by simp[Op.operands,e]),QZ (x:=lo) fun t e=>H' t (by simp[Op.operands,e]),QZ (x:=hi) fun t e=>H' t (by simp[Op.operands,e]),QZ (x:=mx) fun t e=>H' t (by simp[Op.operands,e])]
 case build t ps=>simp only[dS];rw[Xg fun t ht=>H' t (by simpa [Op.operands]using ht)]
 case buildSlice t n ps=>simp only[dS];rw[Xg fun t ht=>H' t (by simpa [Op.operands]using ht)]
 case pick c a b=>simp only[dS];rw[An (x:=c) fun t e=>H' t (by simp[Op.operands,e]),An (x:=a) fun t e=>H' t (by simp[Op.operands,e]),An (x:=b) fun t e=>H' t (by simp[Op.operands,e])]
 all_goals
  simp only[dS];repeat rw[An (σ:=σ) (σ':=σ') fun t e=>H' t (by simp[Op.operands,e])]
theorem Mn{t cs K}(H:rz P t cs K):∃v,K v/\∀K',K' v->rz P t cs K':=by unfold rz at*;grind
theorem ahY{t a K}(H:oI P t a h K):∃v h',K v h'/\∀K',K' v h'->oI P t a h K':=by
 unfold oI at*;split at H
 .split at H
  .rename_i hh;obtain⟨v,h1,h2⟩:=Mn H;grind
  .exact H.elim
 .obtain⟨v,h1,h2⟩:=Mn H;grind
 .exact H.elim
theorem ahZ{t a x K}(H:vC P t a x h K):∃h',K h'/\∀K',K' h'->vC P t a x h K':=by unfold vC at*;grind
theorem ah0{t K}(H:vD P t h K):∃v h',K v h'/\∀K',K' v h'->vD P t h K':=by unfold vD at*;grind
theorem Xi{x K}(H:BS x K):∃v,K v/\∀K',K' v->BS x K':=by unfold BS at*;grind
theorem ah1{op k k' a b K}(H:jq op k a k' b K):∃v,K v/\∀K',K' v->jq op k a k' b K':=by cases op<;>simp only[jq]at*<;>grind
theorem ah2{op a b K}(H:zO op a b K):∃v,K v/\∀K',K' v->zO op a b K':=by cases op<;>simp only[zO]at*<;>grind
theorem Xj{op t x y K}(H:su P op t x y K):∃v,K v/\∀K',K' v->su P op t x y K':=by
 unfold su at*;split at H
 .exact ah1 H
 .exact ah2 H
 .grind
 .exact H.elim
theorem Xk{op x K}(H:yu op x K):∃v,K v/\∀K',K' v->yu op x K':=by unfold yu at*;grind
theorem Xl{s t x K}(H:wL P s t x K):∃v,K v/\∀K',K' v->wL P s t x K':=by unfold wL at*;grind
theorem Xm{x i K}(H:yv x i K):∃v,K v/\∀K',K' v->yv x i K':=by unfold yv at*;grind
theorem Xn{pl}:∀(parts) (cells) {K},sv pl cells parts K->∃v,K v/\∀K',K' v->sv pl cells parts K':=by
 intro parts;induction parts with
 |nil=>intro cells K H;exact⟨_,H,fun K' hk=>hk⟩
 |cons p r ih=>
  intro cells K H;obtain⟨i,x⟩:=p;rw[sv]at H;simp only[sv];grind
theorem Xo{t ps K}(H:kq P t ps K):∃v,K v/\∀K',K' v->kq P t ps K':=by
 unfold kq at*;split at H
 .rename_i h1 h2;split at H
  .rename_i h3;obtain⟨v,k1,k2⟩:=Xn _ _ H;exact⟨_,k1,fun K' hk=>k2 _ hk⟩
  .exact H.elim
 .rename_i h1 h2;split at H
  .rename_i h3;obtain⟨v,k1,k2⟩:=Xn _ _ H;exact⟨_,k1,fun K' hk=>k2 _ hk⟩
  .exact H.elim
 .exact H.elim
theorem Xp{t n ps K}(H:vF P t n ps K):∃v,K v/\∀K',K' v->vF P t n ps K':=by unfold vF at*;grind
theorem ah3{t u s x K}(H:nC P t u s x h K):∃v h',K v h'/\∀K',K' v h'->nC P t u s x h K':=by
 unfold nC at*;split at H
 .obtain⟨e,by_,rows,m,a1,a2,a3,a4,a5,a6,a7,a8,a9,b1,H⟩:=H;exact⟨_,_,H,fun K' hk=>⟨e,by_,rows,m,a1,a2,a3,a4,a5,a6,a7,a8,a9,b1,hk⟩⟩
 .rename_i h1 h2 h3;split at H
  .grind
  .exact H.elim
 .exact H.elim
theorem Xq{t x lo hi mx K}(H:uv P t x lo hi mx K):∃v,K v/\∀K',K' v->uv P t x lo hi mx K':=by
 unfold uv at*;split at H
 .grind
 .grind
 .grind
 .exact H.elim
theorem Xr{s a f K}(H:yq P s a f K):∃v,K v/\∀K',K' v->yq P s a f K':=by
 unfold yq at*;split at H
 .grind
 .exact H.elim
theorem Xs{t x f K}(H:Fk P t x f K):∃v,K v/\∀K',K' v->Fk P t x f K':=by
 unfold Fk at*;split at H
 .rename_i h1;split at H
  .rename_i h2;exact Mn H
  .exact H.elim
 .exact H.elim
theorem Xt{t x i K}(H:yr P t x i K):∃v,K v/\∀K',K' v->yr P t x i K':=by
 unfold yr at*;split at H
 .split at H
  .grind
  .grind
  .exact H.elim
 .exact H.elim
theorem Xu{ok z r cB K}(H:tA ok z r cB K):∃v,K v/\∀K',K' v->tA ok z r cB K':=by unfold tA at*;grind
theorem ah4{ok z m k K}(H:BJ z m k ok h K):∃v,K v/\∀K',K' v->BJ z m k ok h K':=by
 unfold BJ at*;split at H
 .exact⟨_,H,fun K' hk=>hk⟩
 .unfold Dm at*;split at H
  .exact Xu H
  .exact H.elim
 .exact H.elim
theorem ah5{t m k ok K}(H:zW P t m k ok h K):∃v,K v/\∀K',K' v->zW P t m k ok h K':=by
 unfold zW at*;split at H
 .split at H
  .obtain⟨a1,H⟩:=H;obtain⟨v,k1,k2⟩:=ah4 H;grind
  .exact H.elim
 .exact H.elim
theorem ah6{t m k x K}(H:wS P t m k x h K):∃h',K h'/\∀K',K' h'->wS P t m k x h K':=by
 unfold wS at*;split at H
 .split at H
  .obtain⟨a1,H⟩:=H;split at H
   .grind
   .exact H.elim
  .exact H.elim
 .exact H.elim
theorem ah7{d t m k ok K}(H:BQ d P t m k ok h K):∃v,K v/\∀K',K' v->BQ d P t m k ok h K':=by
 unfold BQ at*;split at H
 .unfold QK at*;split at H
  .obtain⟨a1,H⟩:=H;unfold QJ at*;split at H
   .obtain⟨v,k1,k2⟩:=Xu H;grind
   .exact H.elim
  .exact H.elim
 .exact ah5 H
theorem Xv{d t m k x K}(H:vN d P t m k x h K):∃h',K h'/\∀K',K' h'->vN d P t m k x h K':=by
 unfold vN at*;split at H
 .unfold Ir at*;split at H
  .grind
  .exact H.elim
 .exact ah6 H
theorem ah8{t l c K}(H:tC P t l c h K):∃v h',K v h'/\∀K',K' v h'->tC P t l c h K':=by
 unfold tC at*;split at H
 .grind
 .exact H.elim
theorem ah9{t x K}(H:Dv P t x h K):∃v h',K v h'/\∀K',K' v h'->Dv P t x h K':=by unfold Dv at*;grind
theorem ah_{x K}(H:FD x h K):∃v,K v/\∀K',K' v->FD x h K':=by
 unfold FD at*;split at H
 .split at H
  .grind
  .exact H.elim
 .exact H.elim
theorem Xw{t x i K}(H:Af P t x i K):∃v,K v/\∀K',K' v->Af P t x i K':=by
 unfold Af at*;split at H
 .grind
 .obtain⟨a1,a2,H⟩:=H;split at H
  .obtain⟨v,hv,hk⟩:=Mn H;grind
  .exact H.elim
 .exact H.elim
theorem aia{t x K}(H:Du P t x h K):∃v h',K v h'/\∀K',K' v h'->Du P t x h K':=by unfold Du at*;grind
theorem aib{t x K}(H:zV P t x h K):∃v,K v/\∀K',K' v->zV P t x h K':=by unfold zV at*;grind
theorem aic{b ts xs K}(H:pO P b ts xs h K):∃v h',K v h'/\∀K',K' v h'->pO P b ts xs h K':=by
 unfold pO at*;split at H
 .obtain⟨v,k1,k2⟩:=aib H;grind
 .exact ah3 H
 .obtain⟨v,k1,k2⟩:=ahf H;grind
 .obtain⟨v,k1,k2⟩:=ahg H;grind
 .exact aia H
 .exact H.elim
theorem rG{F:(AV->Prop)->Prop}(hF:∀K,F K->∃v,K v/\∀K',K' v->F K'){K:AV->AH->Prop}(H:F fun v=>K v h):
  ∃v h',K v h'/\∀K':AV->AH->Prop,K' v h'->F fun v=>K' v h:=by grind
theorem Xx{op K}(H:dS P Γ σ h op K):∃v h',K v h'/\∀K',K' v h'->dS P Γ σ h op K':=by
 unfold dS at*;split at H
 .exact⟨_,_,H,fun _ hk=>hk⟩
 .exact⟨_,_,H,fun _ hk=>hk⟩
 .grind
 .exact ah0 H
 .exact⟨_,_,H.2,fun _ hk=>⟨H.1,hk⟩⟩
 .exact rG (fun K H=>Xo H) H
 .exact rG (fun K H=>Xp H) H
 .exact ahY H
 .obtain⟨h',k1,k2⟩:=ahZ H;grind
 .exact rG (fun K H=>Xi H) H
 .exact rG (fun K H=>Wn Xj H) H
 .exact rG (fun K H=>Xk H) H
 .exact rG (fun K H=>Wt Xl H) H
 .exact⟨_,_,H,fun _ hk=>hk⟩
 .exact⟨_,_,H,fun _ hk=>hk⟩
 .exact ah8 H
 .exact ah9 H
 .exact rG (fun K H=>ah_ H) H
 .exact rG (fun K H=>Xw H) H
 .exact rG (fun K H=>Wv Xq H) H
 .exact rG (fun K H=>Xr H) H
 .exact rG (fun K H=>Xs H) H
 .exact rG (fun K H=>Xt H) H
 .exact rG (fun K H=>ah7 H) H
 .exact rG (fun K H=>Xm H) H
 .exact rG (fun K H=>WD H) H
 .exact rG (fun K H=>WE H) H
 .obtain⟨h',k1,k2⟩:=Xv H;grind
 .obtain⟨h',k1,k2⟩:=Xv H;grind
 .split at H
  .rename_i h1;exact aic H
  .exact H.elim
 .exact H.elim
theorem aid{o}{K:AV->AH->Prop}(H:∀t∈FL o.op,lk σ t=lk σ' t)(h1:kM P Γ o (fun v _ h=>K v h) σ h):kM P Γ o (fun v _ h=>K v h) σ' h:=by
 unfold kM at*;split at h1
 .rename_i c hc;have H':∀t,Operand.tmp t∈c.operands.toList->lk σ t=lk σ' t:=fun t ht=>H t (by rw[hc];exact Xf ht);split at h1
  .rename_i f hf;have e1:ev Γ σ f=ev Γ σ' f:=An fun t e=>H' t (by simp[Call.operands,hf,e]);have e2:c.args.toList.map (ev Γ σ)=c.args.toList.map (ev Γ σ'):=Mm fun t ht=>H' t (by simp[Call.operands,hf];exact .inr (by simpa using ht));rw[<-e1,<-e2];split at h1
   .exact h1.mono fun _ _ h=>h
   .exact h1.mono fun _ _ h=>h
   .exact h1
  .rw[<-Xh H];exact h1
 .rw[<-Xh H];exact h1
def Mo(P:Program)(Γ:GG)(f:AV)(args:List AV)(h:AH)(K:AV->Prop):Prop:=
 match f with
 | .func g first cap=>∃v,(∀l,az P Γ g (first++args++cap) (h++l) (fun v' h'=>h'=h++l/\v'=v))/\K v
 |_=>False
def wr:Op->Bool
 | .store .. | .mapUpdate .. | .insert .. | .alloc _| .box .. | .makeMap .. | .makeSlice .. | .range .. =>true
 | .call c=>(match c.callee with
  | .builtin .append=>true
  | .builtin .clear=>true
  |_=>false)
 |_=>false
def ins:Op->Bool
 | .move _| .assign _| .pick .. | .build .. | .buildSlice .. | .nilCheck _| .binOp .. | .unOp .. | .convert .. | .makeFunc .. | .slice .. | .fieldAddr .. | .field .. | .indexAddr .. | .extract .. | .index .. | .makeInterface .. | .typeAssert .. =>true
 |_=>false
def tG:Op->Bool
 | .call c=>(match c.callee with
  | .value _=>true
  |_=>false)
 |_=>false
def al:Op->Bool
 | .alloc _| .box .. =>true
 |_=>false
def Q1(b:Bool)(K:AV->Tm->AH->Prop)(σ:Tm)(h:AH)(v:AV)(h':AH):Prop:=if b then K v σ h' else h'=h/\K v σ h
def IK(P:Program)(Γ:GG)(o:Oper)(K:AV->Tm->AH->Prop)(σ:Tm)(h:AH):Prop:=
 match o.op with
 | .call c=>(match c.callee with
  | .value f=>Mo P Γ (ev Γ σ f) (c.args.toList.map (ev Γ σ)) h fun v=>K v σ h
  |_=>dS P Γ σ h o.op (Q1 (wr o.op) K σ h))
 |op=>dS P Γ σ h op (Q1 (wr op) K σ h)
def lZ(P:Program)(Γ:GG)(ops:List Oper)(K:Tm->AH->Prop):List Oper->Tm->AH->Prop
 |[],σ,h=>K σ h
 |o::rest,σ,h=>
  match o.guard with
  |none=>IK P Γ o (fun v σ h=>lZ P Γ ops K rest (put o.dst v σ) h) σ h
  |some (j,want)=>Aj (sE ops j) fun t=>FI (lk σ t) want (IK P Γ o (fun v σ h=>lZ P Γ ops K rest (put o.dst v σ) h) ((t,.bool want)::σ) h)
    (lZ P Γ ops K rest (put o.dst (.tuple []) ((t,.bool (!want))::σ)) h) (lZ P Γ ops K rest (put o.dst (.tuple []) σ) h)
def fe(P:Program)(Γ:GG)(o:Oper)(σ:Tm)(h:AH)(v:AV)(h2:AH):Prop:=kM P Γ o (fun v' _ h'=>v'=v/\h'=h2) σ h
theorem Xy{b K v h'}(H:Q1 b K σ h v h'):K v σ h'/\(b=false->h'=h):=by
 cases b with
 |true=>exact⟨H,fun e=>by cases e⟩
 |false=>obtain⟨rfl,k⟩:=H;exact⟨k,fun _=>rfl⟩
theorem Xz{o K}(H:IK P Γ o K σ h):∃v h',K v σ h'/\fe P Γ o σ h v h'/\(wr o.op=false->h'=h)/\(tG o.op=true->∀l,fe P Γ o σ (h++l) v (h++l)):=by
 unfold IK at H;split at H
 .rename_i c hc;split at H
  .rename_i f hf;unfold Mo at H;split at H
   .rename_i g first cap hg
    obtain⟨v,h1,h2⟩:=H;have key:∀l,fe P Γ o σ (h++l) v (h++l):=fun l=>by simp only[fe,kM,hc,hf,hg];exact(h1 l).mono fun v' h' e=>⟨e.2,e.1⟩
    refine⟨v,h,h2,?_,fun _=>rfl,fun _=>key⟩;have:=key [];rwa [List.append_nil]at this
   .exact H.elim
  .rename_i hf;obtain⟨v,h',k1,k2⟩:=Xx H;obtain⟨k1,k3⟩:=Xy k1;refine⟨v,h',k1,?_,k3,fun yH=>by exfalso;simp only[hc,tG]at yH;cases yH⟩
   have:=k2 (fun v' sG=>v'=v/\sG=h') ⟨rfl,rfl⟩;unfold fe kM;grind
 .rename_i hc;obtain⟨v,h',k1,k2⟩:=Xx H;obtain⟨k1,k3⟩:=Xy k1;refine⟨v,h',k1,?_,k3,fun yH=>by exfalso;unfold tG at yH;grind⟩
  have:=k2 (fun v' sG=>v'=v/\sG=h') ⟨rfl,rfl⟩;unfold fe kM;grind
theorem fe.same{o v h'}(H:∀t∈FL o.op,lk σ t=lk σ' t)(h1:fe P Γ o σ h v h'):fe P Γ o σ' h v h':=aid (K:=fun v' sG=>v'=v/\sG=h') H h1
theorem tH{F:(AV->Prop)->Prop}(hF:∀K,F K->∃v,K v/\∀K',K' v->F K'){v}{h h':AH}(H:F fun v'=>v'=v/\h=h'):
  h'=h/\∀h2:AH,F fun v'=>v'=v/\h2=h2:=by grind
theorem aie{op v h'}(hi:ins op=true)(H:dS P Γ σ h op fun v' sG=>v'=v/\sG=h'):h'=h/\∀h2,dS P Γ σ h2 op fun v' sG=>v'=v/\sG=h2:=by
 unfold dS at*;split at H<;>first
  |(simp[ins]at hi;done)
  |(obtain⟨rfl,rfl⟩:=H;grind)
  |exact tH (fun K H=>Xo H) H
  |exact tH (fun K H=>Xp H) H
  |exact tH (fun K H=>Xi H) H
  |exact tH (fun K H=>Wn Xj H) H
  |exact tH (fun K H=>Xk H) H
  |exact tH (fun K H=>Wt Xl H) H
  |exact tH (fun K H=>Wv Xq H) H
  |exact tH (fun K H=>Xr H) H
  |exact tH (fun K H=>Xs H) H
  |exact tH (fun K H=>Xt H) H
  |exact tH (fun K H=>Xm H) H
  |exact tH (fun K H=>Xw H) H
  |exact tH (fun K H=>WD H) H
  |exact tH (fun K H=>WE H) H
  |exact H.elim
  |skip
 grind
theorem fe.ins{o:Oper}{v:AV}{h':AH}(hi:ins o.op=true)(H:fe P Γ o σ h v h'):h'=h/\∀h2,fe P Γ o σ h2 v h2:=by
 unfold fe kM at*;cases tI:o.op with
 |call c=>rw[tI]at hi;simp[aS.ins]at hi
 |_=>rw[tI]at H hi;exact aie hi H
def eE(P:Program)(Γ:GG)(ops:List Oper)(h:AH)(o:Oper)(σ:Tm)(v:AV)(h':AH):Prop:=
 match o.guard with
 |none=>fe P Γ o σ h v h'
 |some (j,want)=>∃t b,sE ops j=some t/\gv (lk σ t)=some b/\((b=some want/\fe P Γ o σ h v h')\/(b≠some want/\v= .tuple []/\h'=h))
theorem eE.ins{ops:List Oper}{o:Oper}{v:AV}{h':AH}(hi:ins o.op=true)(H:eE P Γ ops h o σ v h'):h'=h/\∀h2,eE P Γ ops h2 o σ v h2:=by
 unfold eE at*;split at H
 .exact H.ins hi
 .obtain⟨t,b,k1,k2,k3⟩:=H;rcases k3 with⟨k3,k4⟩|⟨k3,k4,k5⟩
  .obtain⟨e1,e2⟩:=k4.ins hi;grind
  grind
def putAt(h:AH)(k:Nat)(r:cO):AH:=(h++List.replicate (k+1-h.length) cO.hole).set k r
def isHole(o:Option cO):Prop:=o=none\/o=some .hole
def o9(o:Oper):Bool:=al o.op&&o.guard.isNone
theorem yI(h k r i):(putAt h k r)[i]? =if i=k then some r else if i<h.length then h[i]? else if i<k then some cO.hole else none:=by unfold putAt;grind
theorem aif(h r):putAt h h.length r=h++[r]:=by refine List.ext_getElem? fun i=>?_;rw[yI,List.getElem?_append];grind
theorem isHole.aih{h k k' r}(hr:r≠ .hole)(H:isHole (putAt h k' r)[k]?):k≠k'/\isHole h[k]? :=by
 rw[yI]at H;by_cases e:k=k'
 .rw[if_pos e]at H;rcases H with H|H
  .cases H
  .cases H;exact absurd rfl hr
 .rw[if_neg e]at H;refine⟨e,?_⟩;split at H
  .exact H
  .rename_i dN;exact .inl (List.getElem?_eq_none (by omega))
theorem isHole.put{h k k' r}(hk:k≠k')(H:isHole h[k]?):isHole (putAt h k' r)[k]? :=by
 rw[yI,if_neg hk];split
 .exact H
 .split
  .exact .inr rfl
  .exact .inl rfl
theorem aii{h k k' r r'}(hk:k≠k'):putAt (putAt h k r) k' r'=putAt (putAt h k' r') k r:=by
 have hl:∀(h:AH) k r,(putAt h k r).length=max h.length (k+1):=fun h k r=>by unfold putAt;simp;omega
 refine List.ext_getElem? fun i=>?_;rw[yI,yI,yI,yI,hl,hl];grind
theorem aij(h0 l0){k}(r)(hk:h0.length<=k):∃l,putAt (h0++l0) k r=h0++l:=by refine⟨(l0++List.replicate (k+1-(h0++l0).length) cO.hole).set (k-h0.length) r,?_⟩;unfold putAt;grind
def IL(P:Program)(Γ:GG)(m:Nat)(h:AH)(o:Oper)(σ:Tm)(v:AV)(h':AH):Prop:=
 ∃k row,m<=k/\v= .ptr (some (k,0))/\isHole h[k]? /\row≠ .hole/\h'=putAt h k row/\fe P Γ o σ [] (.ptr (some (0,0))) [row]
def fh(P:Program)(Γ:GG)(ops:List Oper)(m:Nat)(h:AH)(o:Oper)(σ:Tm)(v:AV)(h':AH):Prop:=
 if o9 o=true then IL P Γ m h o σ v h' else eE P Γ ops h o σ v h'
def sH(P:Program)(Γ:GG)(ops:List Oper)(n:Nat)(h:AH)(o:Oper)(σ:Tm)(v:AV):Prop:=
 tG o.op=true->∃h0 l0,h0.length<=n/\h=h0++l0/\∀l,eE P Γ ops (h0++l) o σ v (h0++l)
def aik(P:Program)(Γ:GG)(ops:List Oper)(n:Nat)(h:AH)(o:Oper)(σ:Tm)(v:AV)(h':AH):Prop:=
 (wr o.op=false->h'=h)/\sH P Γ ops n h o σ v
def jB(P:Program)(Γ:GG)(ops:List Oper):Nat->AH->List Oper->Tm->(Tm->AH->Prop)->Prop
 |_,h,[],σ,K=>K σ h
 |m,h,o::r,σ,K=>∃v h' n,fh P Γ ops m h o σ v h'/\aik P Γ ops n h o σ v h'/\m<=n/\jB P Γ ops n h' r (put o.dst v σ) K
theorem fe.al{o v h'}(hi:aS.al o.op=true)(H:fe P Γ o σ h v h'):v= .ptr (some (h.length,0))/\∃row,row≠ .hole/\h'=h++[row]/\fe P Γ o σ [] (.ptr (some (0,0))) [row]:=by
 unfold fe kM at H;unfold aS.al at hi;unfold fe kM;split at hi
 .rename_i t hc;rw[hc]at H|-;simp only[dS]at H|-;unfold vD at H|-;grind
 .rename_i t x hc;rw[hc]at H|-;simp only[dS]at H|-;unfold Dc at H|-;grind
 .cases hi
theorem vR{o}(hi:o9 o=true):al o.op=true/\o.guard=none:=by unfold o9 at hi;simp_all
theorem IM{op}(hi:al op=true):wr op=true/\tG op=false:=by unfold al at hi;split at hi<;>first|exact⟨rfl,rfl⟩|cases hi
theorem fh.of{ops o v h' m}(hm:m<=h.length)(H:eE P Γ ops h o σ v h'):fh P Γ ops m h o σ v h':=by
 unfold fh;split
 .rename_i hi;obtain⟨h1,h2⟩:=vR hi;unfold eE at H;rw[h2]at H;obtain⟨rfl,row,k1,rfl,k2⟩:=fe.al h1 H;exact⟨h.length,row,hm,rfl,.inl (List.getElem?_eq_none (Nat.le_refl _)),k1,(aif h row).symm,k2⟩
 .exact H
theorem fe.len{o v h'}(hw:wr o.op=true)(H:fe P Γ o σ h v h'):h.length<=h'.length:=by
 unfold wr at hw;split at hw
 .rename_i t a x hc;unfold fe kM at H;rw[hc]at H;simp only[dS]at H;unfold vC at H;grind
 .rename_i t m k x hc;unfold fe kM at H;rw[hc]at H;simp only[dS]at H;unfold vN at H;split at H
  .unfold Ir at H;grind
  unfold wS at H;split at H
  .split at H
   .grind
   .exact H.elim
  .exact H.elim
 .rename_i t m k x hc;unfold fe kM at H;rw[hc]at H;simp only[dS]at H;unfold vN at H;split at H
  .unfold Ir at H;grind
  unfold wS at H;split at H
  .split at H
   .grind
   .exact H.elim
  .exact H.elim
 .rename_i t hc;obtain⟨_,row,_,rfl,_⟩:=fe.al (by rw[hc];rfl) H;simp
 .rename_i t x hc;obtain⟨_,row,_,rfl,_⟩:=fe.al (by rw[hc];rfl) H;simp
 .rename_i t r hc;unfold fe kM at H;rw[hc]at H;cases r with
  |none=>
   simp only[dS]at H;obtain⟨_,rfl⟩:=H;simp
  |some r=>exact H.elim
 .rename_i t l c hc;unfold fe kM at H;rw[hc]at H;simp only[dS]at H;unfold tC at H;grind
 .rename_i t x hc;unfold fe kM at H;rw[hc]at H;simp only[dS]at H;unfold Dv at H;grind
 .rename_i c hc;split at hw
  .rename_i BY;unfold fe kM at H;rw[hc]at H;simp only[dS,BY]at H;unfold pO at H;split at H<;>first
    |contradiction
    |skip
   .unfold nC at H;split at H
    .obtain⟨_,_,_,_,_,_,_,_,_,_,_,_,_,_,_,rfl⟩:=H;simp
    .grind
    .exact H.elim
  .rename_i BY;unfold fe kM at H;rw[hc]at H;simp only[dS,BY]at H;unfold pO at H;split at H<;>first
    |contradiction
    |skip
   .unfold Du at H;grind
  .cases hw
 .cases hw
theorem eE.len{ops o v h'}(H:eE P Γ ops h o σ v h')(hk:wr o.op=false->h'=h):h.length<=h'.length:=by
 cases hw:wr o.op with
 |false=>rw[hk hw];exact Nat.le_refl _
 |true=>
  unfold eE at H;split at H
  .exact H.len hw
  .obtain⟨t,b,k1,k2,k3⟩:=H;rcases k3 with⟨_,k4⟩|⟨_,_,rfl⟩
   .exact k4.len hw
   .exact Nat.le_refl _
def rd:Op->Bool
 | .load .. =>true
 |_=>false
def sI:Op->Bool
 | .call c=>(match c.callee with
  | .builtin .append=>true
  |_=>false)
 |_=>false
def Ap(h h':AH):Prop:=∀(i:Nat) (cs:List AV) (T:TypeId),h[i]? =some (.row cs T)<->h'[i]? =some (.row cs T)
theorem ail{t u s x v h'}(H:nC P t u s x h fun v' sG=>v'=v/\sG=h'):Ap h h':=by
 unfold nC at H;split at H
 .obtain⟨_,_,_,_,_,_,_,_,_,_,_,_,_,_,_,rfl⟩:=H;exact fun _ _ _=>Iff.rfl
 .split at H
  .obtain⟨_,_,xs,_,_,_,_,_,H⟩:=H;split at H
   .obtain⟨_,_,rfl⟩:=H;exact fun _ _ _=>Iff.rfl
   .obtain⟨_,rfl⟩:=H;intro i cs T;grind
   .split at H
    .rename_i hi;obtain⟨_,_,rfl⟩:=H;intro i cs T;grind
    .exact H.elim
  .exact H.elim
 .exact H.elim
theorem fe.sI{o:Oper}{v:AV}{h':AH}(hi:sI o.op=true)(H:fe P Γ o σ h v h'):Ap h h':=by
 unfold fe kM at H;unfold aS.sI at hi;split at hi
 .rename_i c hc;rw[hc]at H;simp only at H;split at hi
  .rename_i BY;rw[BY]at H;simp only[dS,BY]at H;unfold pO at H;split at H<;>first
    |contradiction
    |exact ail H
    |exact H.elim
  .cases hi
 .cases hi
theorem aim{t a v h1 h2}(hA:Ap h1 h2)(H:oI P t a h1 fun v' sG=>v'=v/\sG=h1):oI P t a h2 fun v' sG=>v'=v/\sG=h2:=by
 unfold oI at*;split at H
 .rename_i i o;split at H
  .rename_i cs T hr;rw[(hA i cs T).1 hr];grind
  .exact H.elim
 .grind
 .exact H.elim
theorem fe.rd{o:Oper}{v:AV}{h1 h2:AH}(hi:rd o.op=true)(hA:Ap h1 h2)(H:fe P Γ o σ h1 v h1):fe P Γ o σ h2 v h2:=by
 unfold fe kM at*;unfold aS.rd at hi;split at hi
 .rename_i t a hc;rw[hc]at H|-;exact aim hA H
 .cases hi
theorem eE.sI{ops o v h'}(hi:aS.sI o.op=true)(H:eE P Γ ops h o σ v h'):Ap h h':=by
 unfold eE at H;split at H
 .exact H.sI hi
 .obtain⟨t,b,k1,k2,k3⟩:=H;rcases k3 with⟨_,k4⟩|⟨_,_,rfl⟩
  .exact k4.sI hi
  .exact fun _ _ _=>Iff.rfl
theorem eE.rd{ops o v h1 h2}(hi:aS.rd o.op=true)(hA:Ap h1 h2)(H:eE P Γ ops h1 o σ v h1):eE P Γ ops h2 o σ v h2:=by
 unfold eE at*;split at H
 .exact H.rd hi hA
 .obtain⟨t,b,k1,k2,k3⟩:=H;rcases k3 with⟨k3,k4⟩|⟨k3,k4,_⟩
  .exact⟨t,b,k1,k2,.inl ⟨k3,k4.rd hi hA⟩⟩
  grind
theorem Ap.symm{h h'}(hA:Ap h h'):Ap h' h:=fun i cs T=>(hA i cs T).symm
theorem Mp{op}(hi:rd op=true):wr op=false:=by
 unfold rd at hi;split at hi
 .rfl
 .cases hi
def looks(ops:List Oper)(o:Oper):List Tmp:=FL o.op++(match o.guard with
 |some (j,_)=>(sE ops j).toList
 |none=>[])
theorem eE.same{ops o v h'}(H:∀t∈looks ops o,lk σ t=lk σ' t)(h1:eE P Γ ops h o σ v h'):eE P Γ ops h o σ' v h':=by
 unfold eE at*;have H1:∀t∈FL o.op,lk σ t=lk σ' t:=fun t ht=>H t (List.mem_append_left _ ht);split at h1
 .exact h1.same H1
 .rename_i j want hg;obtain⟨t,b,k1,k2,k3⟩:=h1;refine⟨t,b,k1,?_,k3.imp (fun k=>⟨k.1,k.2.same H1⟩) id⟩;rw[<-H t (List.mem_append_right _ (by simp[hg,k1]))];exact k2
def gN(σ σ':Tm):Prop:=∀i,lk σ i=lk σ' i
theorem gN.put{d:Option Tmp}{v:AV}(e:gN σ σ'):gN (put d v σ) (put d v σ'):=fun i=>by
 cases d with
 |none=>exact e i
 |some d=>simp only[aS.put,lk];rw[e i]
theorem fh.same{ops o v h' m}(H:∀t∈looks ops o,lk σ t=lk σ' t)(h1:fh P Γ ops m h o σ v h'):fh P Γ ops m h o σ' v h':=by
 unfold fh at*;split
 .rename_i hi;rw[if_pos hi]at h1;obtain⟨k,row,a1,a2,a3,a4,a5,a6⟩:=h1;exact⟨k,row,a1,a2,a3,a4,a5,a6.same fun t ht=>H t (List.mem_append_left _ ht)⟩
 .rename_i hi;rw[if_neg hi]at h1;exact h1.same H
theorem fh.low{ops o v h' m m'}(hm:m'<=m)(h1:fh P Γ ops m h o σ v h'):fh P Γ ops m' h o σ v h':=by
 unfold fh at*;split
 .rename_i hi;rw[if_pos hi]at h1;obtain⟨k,row,a1,a2,a3,a4,a5,a6⟩:=h1;exact⟨k,row,Nat.le_trans hm a1,a2,a3,a4,a5,a6⟩
 grind
theorem sH.same{ops o v n}(H:∀t∈looks ops o,lk σ t=lk σ' t)(h1:sH P Γ ops n h o σ v):sH P Γ ops n h o σ' v:=fun hc=>by obtain⟨h0,l0,a1,a2,a3⟩:=h1 hc;exact⟨h0,l0,a1,a2,fun l=>(a3 l).same H⟩
theorem jB.low{ops m m'}(hm:m'<=m){l K}(H:jB P Γ ops m h l σ K):jB P Γ ops m' h l σ K:=by
 cases l with
 |nil=>exact H
 |cons o r=>
  obtain⟨v,h',n,h1,h2,h3,h4⟩:=H;exact⟨v,h',n,h1.low hm,h2,Nat.le_trans hm h3,h4⟩
theorem jB.same{ops:List Oper}:∀(l:List Oper) (m:Nat) (h:AH) (σ σ':Tm) {K:Tm->AH->Prop},gN σ σ'->jB P Γ ops m h l σ K->jB P Γ ops m h l σ' fun σ h=>∃σ',gN σ σ'/\K σ' h
 |[],m,h,σ,σ',K,e,H=>⟨σ,fun i=>(e i).symm,H⟩
 |o::r,m,h,σ,σ',K,e,H=>by obtain⟨v,h',n,h1,h2,h3,h4⟩:=H;exact⟨v,h',n,h1.same fun t _=>e t,⟨h2.1,h2.2.same fun t _=>e t⟩,h3,jB.same r _ _ _ _ e.put h4⟩
theorem jB.mono{ops:List Oper}:∀(l:List Oper) (m:Nat) (h:AH) (σ:Tm) {K K':Tm->AH->Prop},(∀σ h,K σ h->K' σ h)->jB P Γ ops m h l σ K->jB P Γ ops m h l σ K'
 |[],m,h,σ,K,K',e,H=>e _ _ H
 |o::r,m,h,σ,K,K',e,H=>by obtain⟨v,h',n,h1,h2,h3,h4⟩:=H;exact⟨v,h',n,h1,h2,h3,jB.mono r _ _ _ e h4⟩
theorem IN{ops:List Oper}{K:Tm->AH->Prop}:∀(l:List Oper) (m:Nat) (h:AH) (σ σ':Tm),m<=h.length->gN σ σ'->lZ P Γ ops K l σ h->jB P Γ ops m h l σ' fun Q2 h=>∃dP,gN Q2 dP/\K dP h
 |[],m,h,σ,σ',hm,e,H=>⟨σ,fun i=>(e i).symm,H⟩
 |o::r,m,h,σ,σ',hm,e,H=>by
  have fin:∀{v:AV} {h':AH} {uD:Tm},eE P Γ ops h o σ' v h'->(wr o.op=false->h'=h)->(tG o.op=true->∀l,eE P Γ ops (h++l) o σ' v (h++l))->gN (put o.dst v uD) (put o.dst v σ')->lZ P Γ ops K r (put o.dst v uD) h'->
    jB P Γ ops m h (o::r) σ' fun Q2 h=>∃dP,gN Q2 dP/\K dP h:=fun {v h' uD} s1 k1 k2 e1 H1=>
   ⟨v,h',h.length,fh.of hm s1,⟨k1,fun hc=>⟨h,[],Nat.le_refl _,(List.append_nil h).symm,k2 hc⟩⟩,hm,IN r _ _ _ _ (s1.len k1) e1 H1⟩
  unfold lZ at H;split at H
  .rename_i hg;obtain⟨v,h',h1,h2,h3⟩:=Xz H;refine fin ?_ h3.1 (fun hc l=>?_) e.put h1
   .unfold eE;rw[hg];exact h2.same fun t _=>e t
   .unfold eE;rw[hg];exact(h3.2 hc l).same fun t _=>e t
  .rename_i j want hg;unfold Aj at H;split at H
   .rename_i t ht;rcases IB H with⟨b,hb,H1,H2⟩|⟨hb,H⟩
    .have eb:∀b',b=b'->gN ((t,.bool b')::σ) σ':=fun b' Ag i=>by
      subst Ag;simp only[lk];split
      .rename_i hi;subst hi;rw[<-e i];exact hb.symm
      .exact e i
     by_cases rF:b=want
     .obtain⟨v,h',h1,h2,h3⟩:=Xz (H1 rF);refine fin ?_ h3.1 (fun hc l=>?_) (eb _ rF).put h1
      .unfold eE;rw[hg];exact⟨t,some b,ht,by rw[<-e t,hb];rfl,.inl ⟨by rw[rF],h2.same fun t _=>eb _ rF t⟩⟩
      .unfold eE;rw[hg];exact⟨t,some b,ht,by rw[<-e t,hb];rfl,.inl ⟨by rw[rF],(h3.2 hc l).same fun t _=>eb _ rF t⟩⟩
     .have nI:b=!want:=by cases b<;>cases want<;>simp_all
      refine fin (h':=h) ?_ (fun _=>rfl) (fun hc l=>?_) (eb _ nI).put (H2 nI)
      .unfold eE;rw[hg];exact⟨t,some b,ht,by rw[<-e t,hb];rfl,.inr ⟨by simpa using rF,rfl,rfl⟩⟩
      .unfold eE;rw[hg];exact⟨t,some b,ht,by rw[<-e t,hb];rfl,.inr ⟨by simpa using rF,rfl,rfl⟩⟩
    .refine fin (h':=h) ?_ (fun _=>rfl) (fun hc l=>?_) e.put H
     .unfold eE;rw[hg];exact⟨t,none,ht,by rw[<-e t,hb];rfl,.inr ⟨by simp,rfl,rfl⟩⟩
     .unfold eE;rw[hg];exact⟨t,none,ht,by rw[<-e t,hb];rfl,.inr ⟨by simp,rfl,rfl⟩⟩
   .exact H.elim
def l7(s:Nat):List Oper->Bool
 |[]=>false
 |o::r=>(o.dst==some s)||l7 s r
def tJ(op:Op)(ops:List Oper)(s':Nat)(l:List (Nat×Nat)):List (Nat×Nat):=match op with
 | .load _ (.tmp s)=>bif (s==s'||l7 s ops)then l else(s,s')::l
 |_=>l
def yJ(ops:List Oper)(s':Nat):List Oper->List (Nat×Nat)
 |[]=>[]
 |o::r=>tJ o.op ops s' (yJ ops s' r)
def oj(op:Op)(ops:List Oper)(l:List (Nat×Nat)):List (Nat×Nat):=match op with
 | .store _ (.tmp s') _=>bif l7 s' ops then l else yJ ops s' ops++l
 |_=>l
def Aq(ops:List Oper):List Oper->List (Nat×Nat)
 |[]=>[]
 |o::r=>oj o.op ops (Aq ops r)
def mm(ops:List Oper):List (Nat×Nat):=Aq ops ops
def IP(a b:AV):Prop:=match a,b with
 | .ptr (some (i,_)),.ptr (some (j,_))=>i≠j
 |_,_=>True
def Sep(σ:Tm):List (Nat×Nat)->Prop
 |[]=>True
 |(s,s')::l=>IP (lk σ s) (lk σ s')/\Sep σ l
def xc(ops:List Oper)(x y:Op):Bool:=match x,y with
 | .load _ (.tmp s),.store _ (.tmp s') _=>(mm ops).contains (s,s')
 |_,_=>false
theorem Sep.at{l s s'}:Sep σ l->(s,s')∈l->IP (lk σ s) (lk σ s'):=by
 induction l with
 |nil=>intro _ hm;simp at hm
 |cons a l ih=>
  obtain⟨t,t'⟩:=a;intro H hm;rcases List.mem_cons.1 hm with e|e
  .cases e;exact H.1
  .exact ih H.2 e
theorem ain{s:Nat}{ops}{o:Oper}(ho:o∈ops)(hd:o.dst=some s):l7 s ops=true:=by
 induction ops with
 |nil=>simp at ho
 |cons a r ih=>
  rcases List.mem_cons.1 ho with rfl|ho
  .simp[l7,hd]
  .simp[l7,ih ho]
theorem Mq{ops:List Oper}{s':Nat}:∀(l:List Oper) (p:Nat×Nat),p∈yJ ops s' l->l7 p.1 ops=false/\p.2=s'
 |[],p,hm=>by simp[yJ]at hm
 |o::r,p,hm=>by
  unfold yJ tJ at hm;split at hm
  .rename_i _ s _;cases hc:(s==s'||l7 s ops)with
   |true=>rw[hc]at hm;exact Mq r p hm
   |false=>
    rw[hc]at hm;rcases List.mem_cons.1 hm with rfl|hm
    .grind
    .exact Mq r p hm
  .exact Mq r p hm
theorem Mr{ops:List Oper}:∀(l:List Oper) (p:Nat×Nat),p∈Aq ops l->l7 p.1 ops=false/\l7 p.2 ops=false
 |[],p,hm=>by simp[Aq]at hm
 |o::r,p,hm=>by
  unfold Aq oj at hm;split at hm
  .rename_i _ s' _ _;cases hc:l7 s' ops with
   |true=>rw[hc]at hm;exact Mr r p hm
   |false=>
    rw[hc]at hm;rcases List.mem_append.1 hm with hm|hm
    .obtain⟨e1,e2⟩:=Mq _ _ hm;exact⟨e1,by rw[e2];exact hc⟩
    .exact Mr r p hm
  .exact Mr r p hm
theorem Sep.put{ops:List Oper}{o:Oper}{v:AV}(ho:o∈ops)(H:Sep σ (mm ops)):Sep (put o.dst v σ) (mm ops):=by
 have key:∀(l:List (Nat×Nat)),(∀p∈l,l7 p.1 ops=false/\l7 p.2 ops=false)->Sep σ l->Sep (aS.put o.dst v σ) l:=by
  intro l;induction l with
  |nil=>exact fun _ _=>trivial
  |cons a l ih=>
   obtain⟨t,t'⟩:=a;intro hf H;refine⟨?_,ih (fun p hp=>hf p (List.mem_cons_of_mem _ hp)) H.2⟩;have h1:=hf _ (List.mem_cons_self ..);cases hd:o.dst with
   |none=>exact H.1
   |some d=>
    have e:∀u,l7 u ops=false->lk ((d,v)::σ) u=lk σ u:=fun u hu=>by simp only[lk];rw[if_neg];rintro rfl;rw[ain ho hd]at hu;cases hu
    show IP (lk ((d,v)::σ) t) (lk ((d,v)::σ) t');rw[e t h1.1,e t' h1.2];exact H.1
 exact key _ (fun p hp=>Mr _ p hp) H
theorem eE.store{ops o v h' t}{s':Nat}{x}(ho:o.op= .store t (.tmp s') x)(H:eE P Γ ops h o σ v h')(k)
  (hk:∀i z,lk σ s'= .ptr (some (i,z))->k≠i):h'[k]? =h[k]? :=by
 have key:fe P Γ o σ h v h'->h'[k]? =h[k]? :=fun H=>by
  unfold fe kM at H;rw[ho]at H;simp only[dS]at H;unfold vC at H;split at H
  .rename_i i z hp;split at H
   .obtain⟨_,_,_,H⟩:=H;rw[<-H.2,List.getElem?_set_ne];exact fun e=>hk i z hp e.symm
   .exact H.elim
  .exact H.elim
 unfold eE at H;grind
theorem eE.loadAt{ops o v h1 h2 t}{s:Nat}(ho:o.op= .load t (.tmp s))(hk:∀i z,lk σ s= .ptr (some (i,z))->h2[i]? =h1[i]?)(H:eE P Γ ops h1 o σ v h1):eE P Γ ops h2 o σ v h2:=by
 have key:fe P Γ o σ h1 v h1->fe P Γ o σ h2 v h2:=fun H=>by
  unfold fe kM at*;rw[ho]at H|-;simp only[dS]at H|-;unfold oI at*;split at H
  .rename_i i z hp;have e:=hk i z hp;grind
  .grind
  .exact H.elim
 unfold eE at*;grind
theorem IQ{ops x y}(H:xc ops x y=true):∃t s t' s' z,x= .load t (.tmp s)/\y= .store t' (.tmp s') z/\(s,s')∈mm ops:=by unfold xc at H;grind
theorem eE.xc{ops x y v v' h1 h2 h3 h4}(H:aS.xc ops x.op y.op=true)(hs:Sep σ (mm ops))(hy:eE P Γ ops h1 y σ v' h2)(e:(h3=h1/\h4=h2)\/(h3=h2/\h4=h1))
  (hx:eE P Γ ops h3 x σ v h3):eE P Γ ops h4 x σ v h4:=by
 obtain⟨t,s,t',s',z,e1,e2,hm⟩:=IQ H;have cV:=hs.at hm;refine hx.loadAt e1 fun i o hp=>?_;have:=hy.store e2 i (fun j o' o_=>by rw[hp,o_]at cV;exact cV);grind
def xd(ops:List Oper)(x y:Oper):Bool:=
 (match x.dst with
  |some d=>!(looks ops y).contains d&&y.dst !=some d
  |none=>true)&&
 (match y.dst with
  |some d=>!(looks ops x).contains d
  |none=>true)&&
 ((!wr x.op&&!wr y.op)||ins x.op||ins y.op||(rd x.op&&sI y.op)||(sI x.op&&rd y.op)||xc ops x.op y.op||xc ops y.op x.op||(al x.op&&(rd y.op||tG y.op))||(o9 x&&o9 y))
theorem aio{ops x y}(h:xd ops x y=true):
  (∀d,x.dst=some d->d∉looks ops y)/\(∀d,x.dst=some d->y.dst≠some d)/\(∀d,y.dst=some d->d∉looks ops x)/\((wr x.op=false/\wr y.op=false)\/ins x.op=true\/ins y.op=true\/(rd x.op=true/\sI y.op=true)\/(sI x.op=true/\rd y.op=true)\/xc ops x.op y.op=true\/xc ops y.op x.op=true\/(al x.op=true/\(rd y.op=true\/tG y.op=true))\/(o9 x=true/\o9 y=true)):=by
 refine⟨fun d hd=>?_,fun d hd=>?_,fun d hd=>?_,?_⟩
 .simp[xd,hd]at h;exact h.1.1.1
 .simp[xd,hd]at h;exact h.1.1.2
 .simp[xd,hd]at h;exact h.1.2
 .simp only[xd,Bool.and_eq_true,Bool.or_eq_true,Bool.not_eq_true']at h;grind
theorem Ms{d:Option Tmp}{v}{t:Nat}(hd:∀x,d=some x->t≠x):lk (put d v σ) t=lk σ t:=by
 cases d with
 |none=>rfl
 |some d=>simp only[put,lk];rw[if_neg (hd d rfl)]
theorem put_comm{d d' v v'}(hd:∀x,d=some x->d'≠some x):gN (put d v (put d' v' σ)) (put d' v' (put d v σ)):=fun i=>by
 cases d with
 |none=>rfl
 |some x=>cases d' with
  |none=>rfl
  |some y=>
   have:=hd x rfl;simp only[put,lk];grind
theorem XA{op}(hi:ins op=true):tG op=false:=by unfold ins at hi;split at hi<;>first|rfl|cases hi
theorem Q3{op}(hi:rd op=true):tG op=false:=by
 unfold rd at hi;split at hi
 .rfl
 .cases hi
theorem XB{op}(hi:tG op=true):wr op=false:=by
 unfold tG at hi;split at hi
 .rename_i c;split at hi
  .rename_i f hf;simp[wr,hf]
  .cases hi
 .cases hi
theorem eE.al{ops o v h'}(hi:aS.al o.op=true)(H:eE P Γ ops h o σ v h'):∃l,h'=h++l:=by
 have key:fe P Γ o σ h v h'->∃l,h'=h++l:=fun H=>by
  unfold fe kM at H;unfold aS.al at hi;split at hi
  .rename_i t hc;rw[hc]at H;simp only[dS]at H;unfold vD at H;grind
  .rename_i t x hc;rw[hc]at H;simp only[dS]at H;unfold Dc at H;grind
  .cases hi
 unfold eE at H;split at H
 .exact key H
 .obtain⟨t,b,k1,k2,k3⟩:=H;rcases k3 with⟨_,k4⟩|⟨_,_,rfl⟩
  .exact key k4
  .exact⟨[],by simp⟩
theorem eE.rdL{ops o v}(hi:aS.rd o.op=true)(H:eE P Γ ops h o σ v h)(l):eE P Γ ops (h++l) o σ v (h++l):=by
 have key:fe P Γ o σ h v h->fe P Γ o σ (h++l) v (h++l):=fun H=>by
  unfold fe kM at*;unfold aS.rd at hi;split at hi
  .rename_i t a hc;rw[hc]at H|-;simp only[dS]at H|-;unfold oI at*;grind
  .cases hi
 unfold eE at*;grind
theorem eE.rdP{ops o v k row}(hi:aS.rd o.op=true)(hk:isHole h[k]?)(H:eE P Γ ops h o σ v h):eE P Γ ops (putAt h k row) o σ v (putAt h k row):=by
 have key:fe P Γ o σ h v h->fe P Γ o σ (putAt h k row) v (putAt h k row):=fun H=>by
  unfold fe kM at*;unfold aS.rd at hi;split at hi
  .rename_i t a hc;rw[hc]at H|-;simp only[dS]at H|-;unfold oI at*;split at H
   .rename_i i z hp;simp only;split at H
    .rename_i cs T hr;rw[yI,if_neg (fun e=>by subst e;rw[hr]at hk;rcases hk with hk|hk<;>cases hk),if_pos (List.getElem?_eq_some_iff.1 hr).1,hr];grind
    .exact H.elim
   .grind
   .exact H.elim
  .cases hi
 unfold eE at*;grind
theorem sH.no{ops o v n}(hc:tG o.op=false):sH P Γ ops n h o σ v:=fun e=>by rw[hc]at e;cases e
theorem fh.al{ops o v h' m}(hi:o9 o=true)(H:fh P Γ ops m h o σ v h'):IL P Γ m h o σ v h':=by unfold fh at H;rwa [if_pos hi]at H
theorem fh.no{ops o v h' m}(hi:¬o9 o=true)(H:fh P Γ ops m h o σ v h'):eE P Γ ops h o σ v h':=by unfold fh at H;rwa [if_neg hi]at H
theorem fh.Q4{ops o v h' m}(hi:o9 o=true)(H:IL P Γ m h o σ v h'):fh P Γ ops m h o σ v h':=by unfold fh;rwa [if_pos hi]
theorem fh.Mt{ops o v h' m}(hi:¬o9 o=true)(H:eE P Γ ops h o σ v h'):fh P Γ ops m h o σ v h':=by unfold fh;rwa [if_neg hi]
theorem Mu{op}(hi:ins op=true):al op=false:=by unfold ins at hi;split at hi<;>first|rfl|cases hi
theorem IS{op}(hi:rd op=true):al op=false:=by
 unfold rd at hi;split at hi
 .rfl
 .cases hi
theorem XD{op}(hi:sI op=true):al op=false:=by
 unfold sI at hi;split at hi
 .rfl
 .cases hi
theorem Mv{ops x y}(hi:xc ops x y=true):al x=false/\al y=false/\tG y=false:=by obtain⟨t,s,t',s',z,rfl,rfl,_⟩:=IQ hi;exact⟨rfl,rfl,rfl⟩
theorem Mw{o}(hi:al o.op=false):¬o9 o=true:=fun e=>by rw[(vR e).1]at hi;cases hi
theorem jB.pull{ops:List Oper}{o:Oper}{L2:List Oper}:∀(L1:List Oper) (m:Nat) (h:AH) (σ:Tm) {K:Tm->AH->Prop},(∀x∈L1,xd ops o x=true/\x∈ops)->Sep σ (mm ops)->jB P Γ ops m h (L1++o::L2) σ K->
  ∃v h',fh P Γ ops m h o σ v h'/\(wr o.op=false->h'=h)/\jB P Γ ops m h' (L1++L2) (put o.dst v σ) fun σ h=>∃σ',gN σ σ'/\K σ' h
 |[],m,h,σ,K,_,_,H=>by obtain⟨v,h',n,h1,h2,qp,h3⟩:=H;exact⟨v,h',h1,h2.1,(jB.mono _ _ _ _ (fun σ h k=>⟨σ,fun _=>rfl,k⟩) h3).low qp⟩
 |x::L1,m,h,σ,K,xe,IT,H=>by
  obtain⟨vx,hx,n,h1,h2,qp,h3⟩:=H;obtain⟨v,h',k1,k2,k3⟩:=jB.pull L1 _ _ _ (fun y hy=>xe y (List.mem_cons_of_mem _ hy)) (IT.put (xe x (List.mem_cons_self ..)).2) h3;obtain⟨a1,a2,a3,a4⟩:=aio (xe x (List.mem_cons_self ..)).1;have s1:fh P Γ ops n hx o σ v h':=k1.same fun t ht=>Ms fun y hy e=>a3 y hy (e▸ht);have s2:fh P Γ ops m h x (put o.dst v σ) vx hx:=h1.same fun t ht=>(Ms fun y hy e=>a1 y hy (e▸ht)).symm;have fin:∀{h3:AH},jB P Γ ops n h3 (L1++L2) (put o.dst v (put x.dst vx σ)) (fun σ h=>∃σ',gN σ σ'/\K σ' h)->jB P Γ ops n h3 (L1++L2) (put x.dst vx (put o.dst v σ)) fun σ h=>∃σ',gN σ σ'/\K σ' h:=fun k=>by refine jB.mono _ _ _ _ ?_ (jB.same _ _ _ _ _ (put_comm a2) k);rintro uD h1 ⟨As,e1,dP,e2,k⟩;exact⟨dP,fun i=>(e1 i).trans (e2 i),k⟩
  have hC:sH P Γ ops n h x (put o.dst v σ) vx:=h2.2.same fun t ht=>(Ms fun y hy e=>a1 y hy (e▸ht)).symm;have h2:=h2.1;by_cases yK:o9 o=true
  .obtain⟨w1,w2⟩:=IM (vR yK).1;obtain⟨k,row,b1,rfl,b3,b4,b5,b6⟩:=s1.al yK;have stay:∀{Iy:AH},Iy=h->hx=Iy->eE P Γ ops (putAt h k row) x (put o.dst (.ptr (some (k,0))) σ) vx (putAt h k row)->sH P Γ ops n (putAt h k row) x (put o.dst (.ptr (some (k,0))) σ) vx->¬o9 x=true->
     ∃v h',fh P Γ ops m h o σ v h'/\(wr o.op=false->h'=h)/\jB P Γ ops m h' (x::L1++L2) (put o.dst v σ) fun σ h=>∃σ',gN σ σ'/\K σ' h:=fun e1 e2 q1 q2 q3=>by
    subst e1;subst e2;subst b5;exact⟨_,_,fh.Q4 yK ⟨k,row,Nat.le_trans qp b1,rfl,b3,b4,rfl,b6⟩,fun e=>(by rw[w1]at e;cases e),vx,_,n,fh.Mt q3 q1,⟨fun _=>rfl,q2⟩,qp,fin k3⟩
   have gV:=(vR yK).1;rcases a4 with⟨q1,q2⟩|q1|q1|⟨q1,q2⟩|⟨q1,q2⟩|q1|q1|⟨q1,q2⟩|⟨q1,q2⟩
   .rw[w1]at q1;cases q1
   .rw[Mu q1]at gV;cases gV
   .obtain⟨e1,e2⟩:=(s2.no (Mw (Mu q1))).ins q1;subst e1;exact stay rfl rfl (e2 _) (sH.no (XA q1)) (Mw (Mu q1))
   .rw[IS q1]at gV;cases gV
   .rw[XD q1]at gV;cases gV
   .rw[(Mv q1).1]at gV;cases gV
   .rw[(Mv q1).2.1]at gV;cases gV
   .rcases q2 with q2|q2
    .have e1:=h2 (Mp q2);subst e1;exact stay rfl rfl ((s2.no (Mw (IS q2))).rdP q2 b3) (sH.no (Q3 q2)) (Mw (IS q2))
    .have e1:=h2 (XB q2);have FM:¬o9 x=true:=fun e=>by rw[(IM (vR e).1).2]at q2;cases q2
     obtain⟨h0,l0,c1,c2,c3⟩:=hC q2;obtain⟨l1,c4⟩:=aij h0 l0 row (Nat.le_trans c1 b1);refine stay e1 rfl ?_ (fun _=>?_) FM
     .rw[c2,c4];exact c3 l1
     grind
   .obtain⟨k',air,d1,rfl,d3,d4,d5,d6⟩:=s2.al q2;subst d5;subst b5;obtain⟨n1,n2⟩:=b3.aih d4;refine⟨_,_,fh.Q4 yK ⟨k,row,Nat.le_trans qp b1,rfl,n2,b4,rfl,b6⟩,fun e=>(by rw[w1]at e;cases e),_,_,n,fh.Q4 q2 ⟨k',air,d1,rfl,isHole.put (fun e=>n1 e.symm) d3,d4,rfl,d6⟩,
     ⟨fun e=>(by rw[(IM (vR q2).1).1]at e;cases e),sH.no (IM (vR q2).1).2⟩,qp,?_⟩
    rw[aii n1];exact fin k3
  .have s1:=s1.no yK;by_cases Au:o9 x=true
   .obtain⟨w1,w2⟩:=IM (vR Au).1;have gV:=(vR Au).1;have ais:ins o.op=true:=by
     rcases a4 with⟨q1,q2⟩|q1|q1|⟨q1,q2⟩|⟨q1,q2⟩|q1|q1|⟨q1,q2⟩|⟨q1,q2⟩
     .rw[w1]at q2;cases q2
     .exact q1
     .rw[Mu q1]at gV;cases gV
     .rw[XD q2]at gV;cases gV
     .rw[IS q2]at gV;cases gV
     .rw[(Mv q1).2.1]at gV;cases gV
     .rw[(Mv q1).1]at gV;cases gV
     .rcases q2 with q2|q2
      .rw[IS q2]at gV;cases gV
      .rw[w2]at q2;cases q2
     .exact absurd q1 yK
    obtain⟨e1,e2⟩:=s1.ins ais;subst e1;exact⟨v,h,fh.Mt yK (e2 h),fun _=>rfl,vx,_,n,s2,⟨h2,hC⟩,qp,fin k3⟩
   .have s2:=s2.no Au;have h1:=h1.no Au;have mo:∀{h':AH},eE P Γ ops h o σ v h'->fh P Γ ops m h o σ v h':=fun e=>fh.Mt yK e;have mx:∀{h1 h2:AH},eE P Γ ops h1 x (put o.dst v σ) vx h2->fh P Γ ops m h1 x (put o.dst v σ) vx h2:=fun e=>fh.Mt Au e;rcases a4 with⟨w1,w2⟩|w1|w1|⟨w1,w2⟩|⟨w1,w2⟩|w1|w1|⟨w1,w2⟩|⟨w1,w2⟩
    .have e1:=h2 w2;have e2:=k2 w1;subst e1;subst e2;exact⟨v,_,mo s1,fun _=>rfl,vx,_,n,mx s2,⟨fun _=>rfl,hC⟩,qp,fin k3⟩
    .obtain⟨e1,e2⟩:=s1.ins w1;subst e1;exact⟨v,h,mo (e2 h),fun _=>rfl,vx,_,n,mx s2,⟨h2,hC⟩,qp,fin k3⟩
    .obtain⟨e1,e2⟩:=s2.ins w1;subst e1;exact⟨v,h',mo s1,k2,vx,_,n,mx (e2 h'),⟨fun _=>rfl,sH.no (XA w1)⟩,qp,fin k3⟩
    .have e1:=k2 (Mp w1);subst e1;have hA:=s2.sI w2;exact⟨v,h,mo (s1.rd w1 hA.symm),fun _=>rfl,vx,_,n,mx s2,⟨h2,hC⟩,qp,fin k3⟩
    .have e1:=h2 (Mp w2);subst e1;have hA:=s1.sI w1;exact⟨v,h',mo s1,k2,vx,_,n,mx (s2.rd w2 hA),⟨fun _=>rfl,sH.no (Q3 w2)⟩,qp,fin k3⟩
    .have hw:wr o.op=false:=by obtain⟨t,s,t',s',z,e1,_⟩:=IQ w1;rw[e1];rfl
     have e1:=k2 hw;subst e1;exact⟨v,h,mo (eE.xc w1 IT h1 (.inr ⟨rfl,rfl⟩) s1),fun _=>rfl,vx,_,n,mx s2,⟨h2,hC⟩,qp,fin k3⟩
    .have hw:wr x.op=false:=by obtain⟨t,s,t',s',z,e1,_⟩:=IQ w1;rw[e1];rfl
     have e1:=h2 hw;subst e1;have s3:eE P Γ ops h' x σ vx h':=eE.xc w1 IT s1 (.inl ⟨rfl,rfl⟩) h1;refine⟨v,h',mo s1,k2,vx,_,n,mx (s3.same fun t ht=>(Ms fun y hy e=>a1 y hy (e▸ht)).symm),⟨fun _=>rfl,sH.no ?_⟩,qp,fin k3⟩;obtain⟨t,s,t',s',z,e1,_⟩:=IQ w1;rw[e1];rfl
    .have hw:wr x.op=false:=by
      rcases w2 with w2|w2
      .exact Mp w2
      .exact XB w2
     have e1:=h2 hw;subst e1;obtain⟨l,rfl⟩:=s1.al w1;rcases w2 with w2|w2
     .exact⟨v,_,mo s1,k2,vx,_,n,mx (s2.rdL w2 l),⟨fun _=>rfl,sH.no (Q3 w2)⟩,qp,fin k3⟩
     .obtain⟨h0,l0,c1,c2,c3⟩:=hC w2;refine⟨v,_,mo s1,k2,vx,_,n,mx ?_,⟨fun _=>rfl,fun _=>⟨h0,l0++l,c1,by rw[c2,List.append_assoc],c3⟩⟩,qp,fin k3⟩;grind
    .exact absurd w1 yK
end
def XE(b:Array Nat)(after:Array Edge):Nat:=after.toList.foldl (fun s e=>if Region.binds .any e then s|||2^e.on|||b.getD e.on 0 else s) 0
def Aw(ops:Array Oper):Bool:=
 let b:=Region.before ops;let ol:=ops.toList
 ol.zipIdx.all fun p=>b.getD p.2 0==XE b p.1.after&&(p.1.after.toList.all fun e=>!Region.binds .any e||Nat.blt e.on p.2)&&
  (ol.take p.2).zipIdx.all fun q=>(b.getD p.2 0).testBit q.2||xd ol p.1 q.1
theorem My(b:Array Nat)(j:Nat):∀(l:List Edge) (s:Nat),(l.foldl (fun s e=>if Region.binds .any e then s|||2^e.on|||b.getD e.on 0 else s) s).testBit j=true->
  s.testBit j=true\/∃e∈l,Region.binds .any e=true/\(e.on=j\/(b.getD e.on 0).testBit j=true)
 |[],s,H=> .inl H
 |e::l,s,H=>by
  rw[List.foldl_cons]at H;rcases My b j l _ H with h1|⟨e',k1,k2⟩
  .grind
  grind
section
variable {P:Program} {Γ:GG} {G:Gh} {h:AH} {w:World} {N:Nat} {σ σ':Tm} {Q:Exit->Tm->AH->Prop} {ops:Array Oper}
theorem FN(hd:Aw ops=true){i o}(ho:ops[i]? =some o):
  (Region.before ops).getD i 0=XE (Region.before ops) o.after/\(∀e∈o.after,Region.binds .any e=true->e.on<i)/\
  ∀(j) (x),j<i->ops[j]? =some x->((Region.before ops).getD i 0).testBit j=false->xd ops.toList o x=true:=by
 unfold Aw at hd;have nk:(o,i)∈ops.toList.zipIdx:=by rw[List.mem_zipIdx_iff_getElem?];simpa using ho
 have h1:=List.all_eq_true.1 hd _ nk;simp only[Bool.and_eq_true,beq_iff_eq]at h1;obtain⟨⟨h1,h2⟩,h3⟩:=h1;refine⟨h1,fun e he hb=>?_,fun j x hj hx hn=>?_⟩
 .have:=List.all_eq_true.1 h2 e (by simpa using he);simp_all
 .have hm:(x,j)∈(ops.toList.take i).zipIdx:=by rw[List.mem_zipIdx_iff_getElem?,List.getElem?_take,if_pos hj];simpa using hx
  grind
def rem(ops:Array Oper)(listed:Array Bool):List Nat:=(List.range ops.size).filter fun i=>!listed.getD i true
theorem pa{listed i}:i∈rem ops listed<->i<ops.size/\listed.getD i true=false:=by unfold rem;grind
theorem DB(listed):(rem ops listed).Pairwise (·<·):=List.Pairwise.filter _ List.pairwise_lt_range
theorem DC{listed:Array Bool}{i}(hi:i<listed.size)(d):(listed.setIfInBounds i true).getD i d=true:=by simp_all
theorem tK{listed:Array Bool}{i j}(nf:i≠j)(d):(listed.setIfInBounds i true).getD j d=listed.getD j d:=by simp_all
theorem Mz{listed i}(hs:listed.size=ops.size)(hi:i∈rem ops listed):∃L1 L2,rem ops listed=L1++i::L2/\rem ops (listed.setIfInBounds i true)=L1++L2/\∀j∈L1,j<i/\listed.getD j true=false:=by
 obtain⟨L1,L2,e⟩:=List.append_of_mem hi;have hp:=DB (ops:=ops) listed;rw[e]at hp;have o_:=List.pairwise_append.1 hp;have h1:∀j∈L1,j<i:=fun j hj=>o_.2.2 j hj i (List.mem_cons_self ..);have h2:∀j∈L2,i<j:=(List.pairwise_cons.1 o_.2.1).1;refine⟨L1,L2,e,?_,fun j hj=>⟨h1 j hj,(pa.1 (e▸List.mem_append_left _ hj)).2⟩⟩;have lF:i<listed.size:=by rw[hs];exact(pa.1 hi).1
 have h3:rem ops (listed.setIfInBounds i true)=(rem ops listed).filter fun j=>decide (j≠i):=by
  unfold rem;rw[List.filter_filter];refine List.filter_congr fun j _=>?_;by_cases hj:j=i
  .subst hj;rw[DC lF];simp
  .rw[tK (fun e=>hj e.symm)];simp[hj]
 rw[h3,e,List.filter_append,List.filter_cons_of_neg (by simp),List.filter_eq_self.2 fun j hj=>by have:=h1 j hj;simp;omega,List.filter_eq_self.2 fun j hj=>by have:=h2 j hj;simp;omega]
def FO(ops:Array Oper)(listed:Array Bool):Prop:=∀i,i<ops.size->listed.getD i true=true->∀j,j<ops.size->((Region.before ops).getD i 0).testBit j=true->listed.getD j true=true
theorem FP{listed:Array Bool}{i}(hi:i<listed.size):listed.getD i false=listed.getD i true:=by grind
theorem Inv.ait(hI:Inv Γ G h w)(o ob){k}(hk:isHole h[k]?)(pL:BB (G.add k w.heap.size) (w.alloc o) k ob):
  G.le (G.add k w.heap.size)/\Inv Γ (G.add k w.heap.size) (putAt h k ob) (w.alloc o):=by
 have rH:G.ρ k=none:=by
  rcases hk with hk|hk
  .cases hc:G.ρ k with
   |none=>rfl
   |some b=>have:=hI.ij k b hc;grind
  .exact(hI.obj k _ hk).1
 have hle:G.le (G.add k w.heap.size):=
  ⟨rfl,fun i c e=>by simp only[Gh.add];grind,fun _ _ _ e=>e,fun _ r e=>⟨r,e,Nat.le_refl _,fun _=>rfl⟩,fun _ _ e=>e,fun _ e=>e,fun b _ e _=>⟨b,e⟩⟩
 refine⟨hle,?_⟩;have eA:=hI.Db o;have hlen:(putAt h k ob).length=max h.length (k+1):=by unfold putAt;simp;omega
 have dI:∀i b,(G.add k w.heap.size).ρ i=some b->(i=k/\b=w.heap.size)\/(i≠k/\G.ρ i=some b):=fun i b e=>by simp only[Gh.add]at e;grind
 have XF:∀i,i≠k->(G.add k w.heap.size).ρ i=G.ρ i:=fun i e=>by simp only[Gh.add];rw[if_neg e]
 exact {
  below:=eA.below
  k_:=eA.k_
  kJ:=eA.kJ
  fix:=eA.fix
  obj:=fun i HP e=>by
   rw[yI]at e;split at e
   .grind
   .rename_i hi;split at e
    .exact(eA.obj i HP e).mono hle (fun _ _=>rfl) (fun _ h=>h) (fun h=>⟨(XF i hi).trans h.1,h.2⟩)
    .rename_i dN;split at e
     .cases e;refine⟨(XF i hi).trans ?_,?_⟩
      .cases hc:G.ρ i with
       |none=>rfl
       |some b=>have:=hI.ij i b hc;omega
      .show G.ar i=none;cases hc:G.ar i with
       |none=>rfl
       |some b=>have:=hI.jv i b hc;omega
     .cases e
  ij:=fun i b e=>by
   rw[hlen];rcases dI i b e with⟨h1,_⟩|⟨_,h2⟩
   .omega
   .have:=hI.ij i b h2;omega
  jv:=fun i r e=>by have:=hI.jv i r e;rw[hlen];omega
  inj:=fun i j b e e'=>by
   rcases dI i b e with⟨h1,h2⟩|⟨h1,h2⟩<;>rcases dI j b e' with⟨k1,k2⟩|⟨k1,k2⟩
   .omega
   .have:=(hI.base j b k2).2;omega
   .have:=(hI.base i b h2).2;omega
   .exact hI.inj i j b h2 k2
  base:=fun i b e=>by
   rcases dI i b e with⟨h1,h2⟩|⟨h1,h2⟩
   .subst h2;exact⟨hI.below.size,by simp⟩
   .have:=hI.base i b h2;exact⟨this.1,by simp;omega⟩
  sep:=fun i b o v hf e e'=>by
   rcases dI i b e with⟨h1,h2⟩|⟨h1,h2⟩
   .have:=hI.C_ (show G.F b o=some v from e');omega
   .exact hI.sep i b o v (fun o7=>hf (by rw[yI,if_neg h1,if_pos (hI.ij i b h2)];exact o7)) h2 e'
  jw:=fun i r b c sz T e e'=>(eA.jw i r b c sz T e e').mono (G':=G.add k w.heap.size) rfl rfl (fun _ _ h=>h) (fun j ej=>by
   rcases dI j b ej with⟨_,h2⟩|⟨_,h2⟩
   .have:=hI.Da (show G.ar i=some r from e) e';omega
   .exact h2)
  kb:=eA.kb
  lp:=eA.lp
  jx:=eA.jx
  gu:=eA.gu
  kn:=fun g cs e=>(eA.kn g cs e).mono hle}
theorem IL.ok{m o v h'}(hI:Inv Γ G h w){a}(ht:TR N G σ a.tmps)(hi:al o.op=true)(H:IL P Γ m h o σ v h'){r next Q'}
  (hn:∀u G' w',G.le G'->Inv Γ G' h' w'->VR G' v u->next (a.put o.dst u) w'):o.wpIn (Fr r) 0 P a w next Q':=by
 obtain⟨k,row,_,rfl,hk,_,rfl,H⟩:=H;have main:∀{cs:List AV} {vals:Array Value} {t:TypeId},b9 G cs vals->row= .row cs t->∃u w' G',G.le G'/\Inv Γ G' (putAt h k row) w'/\VR G' (.ptr (some (k,0))) u/\u= .pointer (some ⟨w.heap.size,0,none⟩)/\w'=w.alloc (.cells vals t):=fun {cs vals t} hv e=>by
  subst e;have rH:G.ρ k=none:=by
   rcases hk with hk|hk
   .cases hc:G.ρ k with
    |none=>rfl
    |some b=>have:=hI.ij k b hc;grind
   .exact(hI.obj k _ hk).1
  have hle:G.le (G.add k w.heap.size):=
   ⟨rfl,fun i c e=>by simp only[Gh.add];grind,fun _ _ _ e=>e,fun _ r e=>⟨r,e,Nat.le_refl _,fun _=>rfl⟩,fun _ _ e=>e,fun _ e=>e,fun b _ e _=>⟨b,e⟩⟩
  obtain⟨k1,k2⟩:=hI.ait (.cells vals t) (.row cs t) hk ⟨w.heap.size,vals,Gh.add_same _ _ _,heap_alloc_new w _,hv.mono hle⟩;exact⟨_,_,_,k1,k2,.ptr (Gh.add_same _ _ _),rfl,rfl⟩
 refine⟨fun _ _=>trivial,?_⟩;show o.uponIn (Fr r) 0 P a next Q' ((o.semAt r a.eval).run P w);unfold fe kM at H;unfold aS.al at hi;split at hi
 .rename_i t hc;rw[hc]at H;simp only[dS]at H;rw[BV r a.eval o (fun c' e=>by rw[hc]at e;cases e)];unfold vD at H;split at H
  .rename_i z hz;obtain⟨u,w',G',k1,k2,k3,rfl,rfl⟩:=main (zN G z.cells) (by have:=H.2;simpa using this.symm);have jf:(execOp a.eval o).run P w= .ok (.value (.pointer (some ⟨w.heap.size,0,none⟩))) (w.alloc (.cells z.cells t)):=by simp[execOp,hc,Instr.alloc,vB hz,newVar,newRow]
   rw[jf];exact hn _ _ _ k1 k2 k3
  .exact H.elim
 .rename_i t x hc;rw[hc]at H;simp only[dS]at H;rw[BV r a.eval o (fun c' e=>by rw[hc]at e;cases e)];unfold Dc at H;have hv:=(oH hI ht x).cells (AV.LU H.1).2;obtain⟨u,w',G',k1,k2,k3,rfl,rfl⟩:=main hv (by have:=H.2.2;simpa using this.symm);have jf:(execOp a.eval o).run P w= .ok (.value (.pointer (some ⟨w.heap.size,0,none⟩))) (w.alloc (.cells (a.eval x).cells t)):=by simp[execOp,hc,Instr.box,newVar,newRow]
  rw[jf];exact hn _ _ _ k1 k2 k3
 .cases hi
theorem XG(hd:Aw ops=true)(hN:mi N ops=true){K}(hK:∀σ σ' h,gN σ σ'->K σ' h->K σ h){G0 ds r}:
  ∀(fuel) (listed) (a) (w) (G) (σ) (h),listed.size=ops.size->FO ops listed->(rem ops listed).length<=fuel->G0.le G->Inv Γ G h w->TR N G σ a.tmps->a.defers=ds->Sep σ (mm ops.toList)->
   (∃m,jB P Γ ops.toList m h ((rem ops listed).filterMap (ops[·]?)) σ K)->wpAnyIn (Fr r) 0 P .any ops (fA Γ N G0 ds (iP K fun _ _ _=>False)) fuel listed a w:=by
 have kx:∀(i:Nat) (o:Oper),ops[i]? =some o->∀x,o.dst=some x->x<N:=fun i o ho x hx=>by have:=List.all_eq_true.1 hN o (by simpa using Array.mem_of_getElem? ho);rw[hx]at this;exact Nat.le_of_ble_eq_true this
 have qh:∀{listed:Array Bool} {i:Nat},listed.size=ops.size->i∈Region.ready .any ops listed->i∈rem ops listed:=fun hs hi=>by obtain⟨h0,o,ho,_⟩:=mem_ready.1 hi;exact pa.2 ⟨(Array.getElem?_eq_some_iff.1 ho).1,h0⟩
 have IU:∀{listed:Array Bool},listed.size=ops.size->rem ops listed≠[]->Region.ready .any ops listed≠[]:=fun {listed} hs cV hr=>by
  cases hl:rem ops listed with
  |nil=>exact cV hl
  |cons m L=>
   obtain⟨yL,vS⟩:=pa.1 (show m∈rem ops listed by rw[hl];exact List.mem_cons_self ..);have IV:∀j∈rem ops listed,m<=j:=fun j hj=>by
    have hp:=DB (ops:=ops) listed;rw[hl]at hp hj;rcases List.mem_cons.1 hj with rfl|hj
    .exact Nat.le_refl _
    .exact Nat.le_of_lt ((List.pairwise_cons.1 hp).1 j hj)
   have:m∈Region.ready .any ops listed:=mem_ready.2 ⟨vS,ops[m],Array.getElem?_eq_getElem yL,fun e he hb=>by
    have dN:=(FN hd (Array.getElem?_eq_getElem yL)).2.1 e he hb;rw[FP (by rw[hs];omega)];cases hx:listed.getD e.on true with
    |true=>rfl
    |false=>have:=IV e.on (pa.2 ⟨by omega,hx⟩);omega⟩
   rw[hr]at this;cases this
 have done:∀(listed:Array Bool) (a:Act) (w:World) (G:Gh) (σ:Tm) (h:AH),rem ops listed=[]->G0.le G->Inv Γ G h w->TR N G σ a.tmps->a.defers=ds->
   (∃m,jB P Γ ops.toList m h ((rem ops listed).filterMap (ops[·]?)) σ K)->fA Γ N G0 ds (iP K fun _ _ _=>False) .normal a w:=fun listed a w G σ h hr hle hI ht mn H=>by
  obtain⟨m,H⟩:=H;rw[hr]at H;exact⟨G,σ,h,[],hle,hI,ht,by simpa using mn,fun D hD=>by simp at hD,List.nodup_nil,H⟩
 intro fuel;induction fuel with
 |zero=>
  intro listed a w G σ h hs hc hf hle hI ht mn jW H;have hr:rem ops listed=[]:=List.length_eq_zero_iff.1 (by omega);refine⟨?_,done listed a w G σ h hr hle hI ht mn H⟩;cases hx:Region.ready .any ops listed with
  |nil=>rfl
  |cons i _=>have:=qh hs (show i∈Region.ready .any ops listed by rw[hx];exact List.mem_cons_self ..);rw[hr]at this;cases this
 |succ fuel ih=>
  intro listed a w G σ h hs hc hf hle hI ht mn jW H;refine⟨fun hr=>done listed a w G σ h ?_ hle hI ht mn H,fun i hi=>?_⟩
  .exact Classical.byContradiction fun cV=>IU hs cV hr
  .have IW:=qh hs hi;obtain⟨XH,o,ho,IX⟩:=mem_ready.1 hi;obtain⟨L1,L2,e1,e2,e3⟩:=Mz hs IW;obtain⟨fI,jH,qq⟩:=FN hd ho;have lF:i<ops.size:=(Array.getElem?_eq_some_iff.1 ho).1;have lB:∀j,j<ops.size->((Region.before ops).getD i 0).testBit j=true->listed.getD j true=true:=fun j hj kg=>by
    rw[fI]at kg;rcases My _ j _ _ kg with h0|⟨e,he,yM,qs⟩
    .simp at h0
    .have uF:=IX e (by simpa using he) yM;have XI:=jH e (by simpa using he) yM;rw[FP (by omega)]at uF;rcases qs with rfl|qs
     .exact uF
     .exact hc e.on (by omega) uF j hj qs
   have qt:FO ops (listed.setIfInBounds i true):=fun k hk rI j hj kg=>by
    by_cases qu:j=i
    .subst qu;exact DC (by omega) _
    .rw[tK (fun e=>qu e.symm)];by_cases mO:k=i
     .subst mO;exact lB j hj kg
     .rw[tK (fun e=>mO e.symm)]at rI;exact hc k hk rI j hj kg
   obtain⟨m,H⟩:=H;rw[e1,List.filterMap_append,List.filterMap_cons,ho]at H;simp only at H;have xe:∀x∈L1.filterMap (ops[·]?),xd ops.toList o x=true/\x∈ops.toList:=fun x hx=>by
    obtain⟨j,hj,Aa⟩:=List.mem_filterMap.1 hx;obtain⟨j1,j2⟩:=e3 j hj;refine⟨?_,by simpa using Array.mem_of_getElem? Aa⟩;refine qq j x j1 Aa ?_;cases kg:((Region.before ops).getD i 0).testBit j with
    |false=>rfl
    |true=>rw[lB j (by omega) kg]at j2;cases j2
   obtain⟨v,h2,s1,_,s2⟩:=jB.pull _ _ _ _ xe jW H;have s3:=jB.mono _ _ _ _ (fun σ h (k:∃σ',gN σ σ'/\K σ' h)=>by obtain⟨σ',k1,k2⟩:=k;exact hK _ _ _ k1 k2) s2;rw[<-List.filterMap_append,<-e2]at s3;have vT:(rem ops (listed.setIfInBounds i true)).length<=fuel:=by rw[e1]at hf;rw[e2];simp at hf|-;omega
   have ld:=kx i o ho;have xf:∀v',Sep (put o.dst v' σ) (mm ops.toList):=fun v'=>jW.put (by simpa using Array.mem_of_getElem? ho);unfold wpOpIn;simp only[ho];have run:fe P Γ o σ h v h2->o.wpIn (Fr r) 0 P a w (wpAnyIn (Fr r) 0 P .any ops (fA Γ N G0 ds (iP K fun _ _ _=>False)) fuel (listed.setIfInBounds i true)) (fA Γ N G0 ds (iP K fun _ _ _=>False)):=fun H=>
    Mf hI ht H fun u v' G' h' w' k1 k2 k3 k4=>by obtain⟨rfl,rfl⟩:=k4;exact ih _ _ w' G' _ _ (by simpa using hs) qt vT (hle.trans k1) k2 ((ht.mono k1).put ld k3) ((put_defers a o.dst u).trans mn) (xf _) ⟨m,s3⟩
   by_cases gV:o9 o=true
   .obtain⟨Ax,IY⟩:=vR gV;unfold Region.wanted;simp only[IY,if_true];exact(s1.al gV).ok hI ht Ax fun u G' w' k1 k2 k3=>
     ih _ _ w' G' _ _ (by simpa using hs) qt vT (hle.trans k1) k2 ((ht.mono k1).put ld k3) ((put_defers a o.dst u).trans mn) (xf _) ⟨m,s3⟩
   have s1:=s1.no gV;unfold eE at s1;unfold Region.wanted;split at s1
   .rename_i hg;simp only[hg,if_true];exact run s1
   .rename_i j want hg;simp only[hg];obtain⟨t,b,hj,hb,qs⟩:=s1;rw[BZ,Array.getElem?_toList]at hj;rw[QV ht hj hb];rcases qs with⟨rfl,hv⟩|⟨nI,rfl,rfl⟩
    .simp only[beq_self_eq_true,if_true];exact run hv
    .have:(b==some want)=false:=by simpa using nI
     simp only[this,Bool.false_eq_true,if_false];exact⟨fun _ _=>trivial,ih _ _ w G _ _ (by simpa using hs) qt vT hle hI (ht.put ld (VR.undef G)) ((put_defers a o.dst undef).trans mn) (xf _) ⟨m,s3⟩⟩
theorem Cb:aS.rem ops (Array.replicate ops.size false)=List.range ops.size:=by unfold rem;simp_all
theorem aiu{id}(hm:P.follows .mixedOrders=true)(hd:Aw ops=true)(hN:mi N ops=true)(jW:Sep σ (mm ops.toList))(H:lZ P Γ ops.toList (fun σ h=>Q .normal σ h) ops.toList σ h):bw P Γ N (.region id ops true) Q σ h:=fun r G w a hr hI ht=>by
 have hs:=IN _ 0 _ σ σ (Nat.zero_le _) (fun _=>rfl) H;refine wpIn_mono (Q:=fA Γ N G a.defers (iP (fun σ h=>∃dP,gN σ dP/\Q .normal dP h) fun _ _ _=>False)) ?_ fun e a' w' hp=>?_
 .refine wpIn_region_any hm (XG (K:=fun σ h=>∃dP,gN σ dP/\Q .normal dP h) hd hN (fun σ σ' h e ⟨dP,k1,k2⟩=>⟨dP,fun i=>(e i).trans (k1 i),k2⟩) ops.size _ a _ G σ h (by simp) (fun i hi hl=>?_) ?_ (Gh.le.refl G) ?_ ht rfl jW ?_)
  .simp_all
  .rw[Cb];simp
  .exact hI.later (Nat.le_refl _) rfl rfl rfl (fun _ _=>rfl)
  .rw[Cb,Dz];exact⟨0,hs⟩
 .obtain⟨G',σ',h',Ds,h1,h2,h3,h4,h5,h6,h7⟩:=hp;cases e with
  |normal=>
   obtain⟨dP,k1,k2⟩:=h7;exact⟨G',dP,h',Ds,h1,h2,⟨h3.1,fun i=>by rw[<-k1 i];exact h3.2 i⟩,h4,h5,h6,k2⟩
  |_=>exact h7.elim
end
def stops:Code->Bool
 | .loop _=>true
 | .rangeFunc _ _ _ _=>true
 | .scope _=>true
 | .seq x y=>stops x||stops y
 | .cond _ x y=>stops x||stops y
 | .block _ c=>stops c
 |_=>false
def gW(N:Nat):Code->Bool
 | .region _ ops d=>mi N ops&&(!d||Aw ops)
 | .seq x y=>gW N x&&gW N y
 | .cond _ x y=>gW N x&&gW N y
 | .block _ c=>gW N c
 |_=>true
def fO(P:Program)(Γ:GG)(N:Nat):Code->(Exit->Tm->AH->Prop)->Tm->AH->Prop
 | .skip,Q,σ,h=>Q .normal σ h
 | .label _,Q,σ,h=>Q .normal σ h
 | .exit id,Q,σ,h=>Q (.exit id) σ h
 | .goto l,Q,σ,h=>Q (.goto l) σ h
 | .ret,Q,σ,h=>Q .ret σ h
 | .region _ ops false,Q,σ,h=>ke P Γ ops.toList (Q .normal) ops.toList σ h
 | .region _ ops true,Q,σ,h=>Sep σ (mm ops.toList)/\lZ P Γ ops.toList (Q .normal) ops.toList σ h
 | .seq x y,Q,σ,h=>fO P Γ N x (iP (fun σ h=>bif stops x then bw P Γ N y Q σ h else fO P Γ N y Q σ h) Q) σ h
 | .cond c x y,Q,σ,h=>w8 (ev Γ σ c) true (fO P Γ N x Q σ h) (fO P Γ N y Q σ h)
 | .block id c,Q,σ,h=>fO P Γ N c (w9 id Q) σ h
 |c,Q,σ,h=>bw P Γ N c Q σ h
section
variable {P:Program} {Γ:GG} {G:Gh} {h:AH} {w:World} {N:Nat} {σ σ':Tm} {Q:Exit->Tm->AH->Prop}
theorem tL(hm:P.follows .mixedOrders=true):∀(c) (Q) (σ) (h),gW N c=true->fO P Γ N c Q σ h->bw P Γ N c Q σ h:=by
 intro c;induction c with
 |skip=>exact fun Q σ h _ H=>WU H
 |label l=>exact fun Q σ h _ H=>WV H
 |exit id=>exact fun Q σ h _ H=>WW H
 |goto l=>exact fun Q σ h _ H=>WX H
 |ret=>exact fun Q σ h _ H=>WY H
 |region id ops d=>
  intro Q σ h hc H;simp only[gW,Bool.and_eq_true]at hc;cases d with
  |false=>exact ahW hc.1 H
  |true=>exact aiu hm (by simpa using hc.2) hc.1 H.1 H.2
 |seq x y ix iy=>
  intro Q σ h hc H;simp only[gW,Bool.and_eq_true]at hc;refine fR ((ix _ σ h hc.1 H).mono fun e σ h he=>?_);cases e with
  |normal=>
   simp only[iP]at he|-;grind
  |_=>exact he
 |cond b x y ix iy=>
  intro Q σ h hc H;simp only[gW,Bool.and_eq_true]at hc;obtain⟨v,hv,h1,h2⟩:=W_ H;exact uB hv (fun e=>ix Q σ h hc.1 (h1 e)) (fun e=>iy Q σ h hc.2 (h2 e))
 |block id c ic=>exact fun Q σ h hc H=>jZ (ic _ σ h hc H)
 |loop c _=>exact fun Q σ h _ H=>H
 |rangeFunc f ps a b _ _=>exact fun Q σ h _ H=>H
 |scope c _=>exact fun Q σ h _ H=>H
 |refuse s=>exact fun Q σ h _ H=>H
def MA{α:Type}(L:List Nat)(st:α->Tm)(hp:α->AH)(inv:α->Prop)(μ:α->Nat)(x:α)(Q:Exit->Tm->AH->Prop):Exit->Tm->AH->Prop
 | .normal,σ,h=>∃y,μ y<μ x/\inv y/\yE (keep L σ) (st y)/\h=hp y
 |e,σ,h=>Q e σ h
theorem vU{α c}(L st hp inv μ)(x0:α)(h1:keep L σ=st x0)(h2:h=hp x0)(h3:inv x0)
  (hm:P.follows .mixedOrders=true)(hc:gW N c=true)(H:∀x,inv x->fO P Γ N c (MA L st hp inv μ x Q) (st x) (hp x)):bw P Γ N (.loop c) Q σ h:=by
 refine Iw (fun n σ h=>∃x,n=μ x/\inv x/\yE (keep L σ) (st x)/\h=hp x) ⟨x0,rfl,h3,.of_eq h1,h2⟩ fun n σ h hx=>?_;obtain⟨x,rfl,hi,hs,rfl⟩:=hx;refine bw.keep L (bw.Ix ?_ hs);refine(tL hm c _ _ _ hc (H x hi)).mono fun e σ h he=>?_;cases e with
 |normal=>obtain⟨y,k1,k2,k3,k4⟩:=he;exact⟨μ y,k1,y,rfl,k2,k3,k4⟩
 |_=>exact he
theorem aiv{f fn c args rs R}(hf:P.funcs[f]? =some fn)(hb:fn.body=some c)(hn:(fn.name== "runtime.NumGoroutine")=false)
  (hN:Nat.ble args.length fn.ntmps=true)(fJ:fn.results=rs.toArray)(hm:P.follows .mixedOrders=true)(hc:gW fn.ntmps c=true)(H:fO P Γ fn.ntmps c (vQ P rs R) (nJ 0 args) h):az P Γ f args h R:=
 Ml hf hb hn hN fJ (tL hm c _ _ _ hc H)
end
end Go.aS
