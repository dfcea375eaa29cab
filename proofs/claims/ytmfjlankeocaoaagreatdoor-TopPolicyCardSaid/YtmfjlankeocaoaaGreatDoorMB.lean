/- Parts of the proof of TopPolicy, joined: AbsN..AbsZf. No conditions. -/
import Derived.Test.YtmfjlankeocaoaaGreatDoorMA
import Derived.Test.YtmfjlankeocaoaaGreatDoorProg
import Derived.KernelRfl
import Derived.RecoverIn
set_option linter.all false
set_option maxRecDepth 100000
set_option maxHeartbeats 8000000
namespace Go.aS
open Go Go.RowKit
def XJ(P:Program)(t:TypeId)(f:Nat):Option (Nat×TypeId):=match P.underlying t with
 |some (.struct fields)=>(fields[f]?).map fun fd=>(fd.offset,fd.type)
 |_=>none
def gA(P:Program)(t:TypeId)(f:Nat):Option Nat:=match XJ P t f with
 |some (o,u)=>(match dA P u with
  |some (_+1)=>some o
  |_=>none)
 |none=>none
def tag(P:Program)(t:TypeId):Option (Option Nat):=match P.underlying t with
 |none=>none
 |some d=>if HR d then(dA P t).map some else some none
def pT(P:Program)(t:TypeId):Option (Option Nat×Nat):=match P.underlying t with
 |some (.slice e)=>(dA P e).map fun n=>(none,n)
 |some (.array len e)=>(dA P e).map fun n=>(some len,n)
 |_=>none
def fw(P:Program)(t:TypeId):Option (List AV):=(jy P t).map fun z=>z.cells.toList.map oG
def I0(P:Program)(t:TypeId):Option (Bool×AV):=match P.underlying t with
 |some (.map kt et)=>(match P.underlying kt,jy P et with
  |some (.int _),some z=>some (true,zM z)
  |some .string,some z=>some (false,zM z)
  |_,_=>none)
 |_=>none
def FQ(P:Program)(t:TypeId):Option (Option Nat):=match P.underlying t with
 |some .string=>some none
 |some (.slice e)=>(dA P e).map some
 |_=>none
def rJ(P:Program)(t:TypeId):Option (Nat×Nat):=match P.underlying t with
 |some (.slice e)=>(match dA P e,tt P e,jy P e with
  |some n,some by_,some z=>if n≠0/\z.cells.size=n then some (n,by_)else none
  |_,_,_=>none)
 |_=>none
def lG(P:Program)(t:TypeId):Option (Nat×Nat×List AV×TypeId):=match P.underlying t with
 |some (.slice e)=>(match dA P e,tt P e,jy P e with
  |some n,some by_,some z=>if n≠0/\z.cells.size=n/\z.cells.toList.all (·.oneCell')=true then some (n,by_,z.cells.toList.map oG,e)else none
  |_,_,_=>none)
 |_=>none
def xg(P:Program)(t:TypeId):Bool:=match P.underlying t with
 |some (.int _)=>false
 |some _=>true
 |none=>false
def jK(P:Program)(t:TypeId):Option (List (Nat×Nat)):=match P.underlying t with
 |some (.struct fields)=>Fm P fields.toList
 |_=>none
def xh(P:Program)(t:TypeId):Option Nat:=match P.underlying t with
 |some (.slice e)=>(match dA P e,jy P e with
  |some n,some z=>if n≠0/\z.cells.size=n then some n else none
  |_,_=>none)
 |_=>none
inductive MB where
 |str|sl|arr (n:Nat)|map
def oM(P:Program)(t:TypeId):Option MB:=match P.underlying t with
 |some .string=>some .str
 |some (.slice _)=>some .sl
 |some (.array n _)=>some (.arr n)
 |some (.map _ _)=>some .map
 |_=>none
def DE(P:Program)(s t:TypeId):Option (Option IntKind):=match P.underlying s,P.underlying t with
 |some _,some (.int k)=>some (some k)
 |some _,some .string=>some none
 |_,_=>none
def I1(P:Program)(t:TypeId):Bool:=match P.underlying t with
 |some .bool=>true
 |_=>false
theorem nK(h l:AH)(k):(h++l)[h.length+k]? =l[k]? :=by grind
theorem aiw(h l:AH):(h++l)[h.length]? =l[0]? :=nK h l 0
theorem mq(h l:AH)(k o):(h++l).set (h.length+k) o=h++l.set k o:=by grind
theorem aix(h l:AH)(o):(h++l).set h.length o=h++l.set 0 o:=mq h l 0 o
theorem aiy(h l m:AH):(h++l)++m=h++(l++m):=List.append_assoc ..
theorem hlen(h l:AH):(h++l).length=h.length+l.length:=List.length_append
theorem eP{h:AH}{i:Nat}(l){o}(e:h[i]? =some o):(h++l)[i]? =some o:=by grind
theorem aiz(l r)(x:AV):(l++x::r)[l.length]? =some x:=by simp
theorem aiA{α:Type}(f)(l:List α)(r)(x:AV):(l.map f++x::r)[l.length]? =some x:=by grind
theorem aiB(i L σ):keep (i::L) σ=(i,lk σ i)::keep L σ:=(rfl)
theorem aiC(σ):keep [] σ=[]:=(rfl)
theorem aiD(i a r):nJ i (a::r)=(i,a)::nJ (i+1) r:=(rfl)
theorem aiE(i):nJ i []=[]:=(rfl)
theorem wrap_i64(n)(h1:-9223372036854775808<=n)(h2:n<=9223372036854775807):IntKind.i64.wrap n=n:=IntWalk.i64_in n ⟨h1,h2⟩
theorem XK(cs o x):iU cs o [x]=cs.set o x:=(rfl)
theorem aiF(cs o x y r):iU cs o (x::y::r)=cs.take o++(x::y::r)++cs.drop (o+(x::y::r).length):=(rfl)
theorem aiG(cs):(AV.agg cs).cells=cs:=(rfl)
theorem aiH(cs):(AV.agg cs).nA=cs.all AV.one:=(rfl)
theorem aiI(cs):(AV.agg cs).one=false:=(rfl)
theorem aiJ(k n):(AV.int k n).cells=[AV.int k n]:=(rfl)
theorem aiK(k n):(AV.int k n).nA=true:=(rfl)
theorem aiL(k n):(AV.int k n).one=true:=(rfl)
theorem aiM(b):(AV.bool b).cells=[AV.bool b]:=(rfl)
theorem aiN(b):(AV.bool b).nA=true:=(rfl)
theorem aiO(s):(AV.str s).cells=[AV.str s]:=(rfl)
theorem aiP(s):(AV.str s).nA=true:=(rfl)
theorem aiQ(s):(AV.str s).one=true:=(rfl)
theorem aiR(p):(AV.ptr p).cells=[AV.ptr p]:=(rfl)
theorem aiS(p):(AV.ptr p).nA=true:=(rfl)
theorem aiT(r o):(AV.sl r o).cells=[AV.sl r o]:=(rfl)
theorem aiU(r o):(AV.sl r o).nA=true:=(rfl)
theorem aiV(r o):(AV.sl r o).one=true:=(rfl)
theorem aiW(i o l c s):(AV.ms i o l c s).cells=[AV.ms i o l c s]:=(rfl)
theorem aiX(i o l c s):(AV.ms i o l c s).nA=true:=(rfl)
theorem aiY(i o l c s):(AV.ms i o l c s).one=true:=(rfl)
theorem aiZ(r):(AV.map r).cells=[AV.map r]:=(rfl)
theorem ai0(r):(AV.map r).nA=true:=(rfl)
theorem ai1(f a b):(AV.func f a b).cells=[AV.func f a b]:=(rfl)
theorem ai2(f a b):(AV.func f a b).nA=true:=(rfl)
theorem ai3(f a b):(AV.func f a b).one=true:=(rfl)
theorem ai4(l):(AV.yield l).cells=[AV.yield l]:=(rfl)
theorem ai5(l):(AV.yield l).nA=true:=(rfl)
theorem ai6:AV.nilFunc.one=true:=(rfl)
theorem ai7(t v):(AV.iface t v).cells=[AV.iface t v]:=(rfl)
theorem ai8(t v):(AV.iface t v).one=true:=(rfl)
attribute [go_sem] aiG aiH aiI aiJ aiK aiL aiM aiN aiO aiP aiQ aiR aiS aiT aiU aiV aiW aiX aiY aiZ ai0 ai1 ai2 ai3 ai4 ai5 ai6 ai7 ai8
attribute [go_sem] nK aiw mq aix aiy hlen aiz aiA aiB aiC aiD aiE XK aiF
attribute [go_sem] List.all_cons List.all_nil Bool.and_true Bool.true_and Bool.and_false Bool.false_and Bool.or_true Bool.true_or Bool.or_false Bool.false_or Bool.not_true Bool.not_false true_and and_true and_self List.getElem?_cons_zero List.getElem?_cons_succ List.length_cons List.length_nil List.take_succ_cons List.take_zero List.drop_succ_cons List.drop_zero List.map_cons List.map_nil List.cons_append List.nil_append List.append_nil List.set_cons_zero List.set_cons_succ Option.bind_some Option.bind_none Option.map_some Option.map_none AV.agg.injEq exists_eq' true_or or_true Nat.le_refl Int.toNat_natCast Int.toNat_zero List.length_map Int.add_sub_cancel Int.lt_irrefl Int.natCast_nonneg Int.natCast_add Int.cast_ofNat_Int Int.natCast_one ne_eq not_false_eq_true not_true_eq_false
section
variable {P:Program} {Γ:GG} {N:Nat} {σ σ':Tm} {h h':AH}
@[go_sem] theorem auI(t:Nat):ev Γ σ (.tmp t)=lk σ t:=(rfl)
@[go_sem] theorem auJ(f):ev Γ σ (.func f)= .func f [] []:=(rfl)
@[go_sem] theorem auK(k n):ev Γ σ (.const (.int k n))= .int k n:=(rfl)
@[go_sem] theorem auL(b):ev Γ σ (.const (.bool b))= .bool b:=(rfl)
@[go_sem] theorem auM(s):ev Γ σ (.const (.string s))= .str s:=(rfl)
@[go_sem] theorem auN:ev Γ σ (.const (.slice none 0 0))= .sl [] .full:=(rfl)
@[go_sem] theorem auO:ev Γ σ (.const (.map none))= .map none:=(rfl)
@[go_sem] theorem auP:ev Γ σ (.const .nilFunc)= .nilFunc:=(rfl)
@[go_sem] theorem auQ:ev Γ σ (.const .nilIface)= .nilIface:=(rfl)
@[go_sem] theorem auR(d:Nat)(v):put (some d) v σ=(d,v)::σ:=(rfl)
@[go_sem] theorem auS(v):put none v σ=σ:=(rfl)
@[go_sem] theorem I2(j v i):lk ((j,v)::σ) i=if i=j then v else lk σ i:=(rfl)
@[go_sem] theorem auT(l:List (Nat×Operand)):jV Γ σ l.toArray=l.map fun p=>(p.1,ev Γ σ p.2):=(rfl)
abbrev KT:=AV->Tm->AH->Prop
def vV(K:KT)(σ:Tm)(v:AV)(h:AH):Prop:=K v σ h
def kN(K:KT)(σ:Tm)(h:AH)(v:AV):Prop:=K v σ h
def I3(K:KT)(σ:Tm)(h:AH):Prop:=K (.tuple []) σ h
def MC(K:KT)(σ:Tm)(h:AH)(v:AV)(h':AH):Prop:=h'=h/\K v σ h
def Q6:Builtin->Bool
 | .append=>true
 | .clear=>true
 |_=>false
def MD(b:Bool)(K:KT)(σ:Tm)(h:AH)(v:AV)(h':AH):Prop:=if b then K v σ h' else h'=h/\K v σ h
@[go_sem] theorem auU:Q6 .append=true:=(rfl)
@[go_sem] theorem auV:Q6 .len=false:=(rfl)
@[go_sem] theorem auW(K):MD true K σ h=vV K σ:=(rfl)
@[go_sem] theorem auX(K):MD false K σ h=MC K σ h:=by funext v h';simp[MD,MC]
def I4(K:AV->AH->Prop)(h:AH)(v:AV):Prop:=K v h
def Q7(K:AH->Prop)(h:AH)(i:Nat)(ob:cO):Prop:=K (h.set i ob)
def ME(K:AV->Prop)(cs:List AV):Prop:=K (.agg cs)
def vW(R:AV->AH->Prop)(h:AH)(vs:List AV):Prop:=R (oneOf vs) h
def MF(k:List AV->Prop)(v:AV)(vs:List AV):Prop:=k (v::vs)
def XL(P:Program)(σ:Tm)(h:AH)(r:List ResultVar)(k:List AV->Prop)(v:AV)(_:AH):Prop:=lE P σ h r (MF k v)
@[go_sem] theorem auY(K v):vV K σ v h=K v σ h:=(rfl)
@[go_sem] theorem auZ(K v):kN K σ h v=K v σ h:=(rfl)
@[go_sem] theorem au0(K):I3 K σ h=K (.tuple []) σ h:=(rfl)
@[go_sem] theorem au1(K v):MC K σ h v h'=(h'=h/\K v σ h):=(rfl)
@[go_sem] theorem au2(K v):I4 K h v=K v h:=(rfl)
@[go_sem] theorem au3(K i ob):Q7 K h i ob=K (h.set i ob):=(rfl)
@[go_sem] theorem au4(K cs):ME K cs=K (.agg cs):=(rfl)
@[go_sem] theorem au5(R vs):vW R h vs=R (oneOf vs) h:=(rfl)
@[go_sem] theorem au6(k v vs):MF k v vs=k (v::vs):=(rfl)
@[go_sem] theorem au7(r k v):XL P σ h r k v h'=lE P σ h r (MF k v):=(rfl)
abbrev KB:=Tm->AH->Prop
def lH(v:AV)(want:Bool)(F1:KB)(s1:Tm)(F2:KB)(s2:Tm)(h:AH):Prop:=w8 v want (F1 s1 h) (F2 s2 h)
def aJ(p:Prop)(F1:KB)(s1:Tm)(F2:KB)(s2:Tm)(h:AH):Prop:=(p->F1 s1 h)/\(¬p->F2 s2 h)
section
variable {F1 F2:KB} {s1 s2:Tm}
@[go_sem] theorem au8:lH (.bool true) true F1 s1 F2 s2 h=F1 s1 h:=by simp[lH,w8,Ai]
@[go_sem] theorem au9:lH (.bool false) false F1 s1 F2 s2 h=F1 s1 h:=by simp[lH,w8,Ai]
@[go_sem] theorem au_:lH (.bool true) false F1 s1 F2 s2 h=F2 s2 h:=by simp[lH,w8,Ai]
@[go_sem] theorem ava:lH (.bool false) true F1 s1 F2 s2 h=F2 s2 h:=by simp[lH,w8,Ai]
@[go_sem] theorem avb:aJ True F1 s1 F2 s2 h=F1 s1 h:=by simp[aJ]
@[go_sem] theorem avc:aJ False F1 s1 F2 s2 h=F2 s2 h:=by simp[aJ]
@[go_sem] theorem avd(p):aJ (¬p) F1 s1 F2 s2 h=aJ p F2 s2 F1 s1 h:=by unfold aJ;grind
@[go_sem] theorem ave(p)[Decidable p]:lH (.bool (decide p)) true F1 s1 F2 s2 h=aJ p F1 s1 F2 s2 h:=by simp[lH,w8,Ai,aJ]
@[go_sem] theorem avf(p)[Decidable p]:lH (.bool (decide p)) false F1 s1 F2 s2 h=aJ p F2 s2 F1 s1 h:=by simp only[lH,w8,Ai,aJ,decide_eq_false_iff_not,Bool.not_false,decide_eq_true_eq];grind
@[go_sem] theorem avg(b w):lH (.bool (!b)) w F1 s1 F2 s2 h=lH (.bool b) w F2 s2 F1 s1 h:=by cases b<;>cases w<;>simp[lH,w8,Ai]
theorem aJ.intro{p}(h1:p->F1 s1 h)(h2:¬p->F2 s2 h):aJ p F1 s1 F2 s2 h:=⟨h1,h2⟩
theorem lH.intro{b w}(h1:b=w->F1 s1 h)(h2:b=!w->F2 s2 h):lH (.bool b) w F1 s1 F2 s2 h:=⟨h1,h2⟩
theorem aJ.pos{p}(hp:p)(h1:F1 s1 h):aJ p F1 s1 F2 s2 h:=⟨fun _=>h1,fun hn=>absurd hp hn⟩
theorem aJ.neg{p}(hp:¬p)(h1:F2 s2 h):aJ p F1 s1 F2 s2 h:=⟨fun hn=>absurd hn hp,fun _=>h1⟩
end
def MG(v:AV)(want:Bool)(F1:KB)(s1:Tm)(F2:KB)(s2 s3:Tm)(h:AH):Prop:=FI v want (F1 s1 h) (F2 s2 h) (F2 s3 h)
@[go_sem] theorem avh{F1 F2 s1 s2 s3}(b want):MG (.bool b) want F1 s1 F2 s2 s3 h=lH (.bool b) want F1 s1 F2 s2 h:=(rfl)
@[go_sem] theorem avi{F1 F2 s1 s2 s3}(want):MG (.tuple []) want F1 s1 F2 s2 s3 h=F2 s3 h:=(rfl)
def MH(d:Option Tmp)(want:Bool)(F1 F2:KB)(σ:Tm)(h:AH):Prop:=Aj d fun t=>MG (lk σ t) want F1 ((t,.bool want)::σ) F2 ((t,.bool (!want))::σ) σ h
@[go_sem] theorem avj(t want F1 F2):MH (some t) want F1 F2 σ h=MG (lk σ t) want F1 ((t,.bool want)::σ) F2 ((t,.bool (!want))::σ) σ h:=(rfl)
@[go_sem↓] theorem avk(d op ty pos after g r):sE ({dst:=d,op:=op,type:=ty,pos:=pos,after:=after,guard:=g}::r) 0=d:=(rfl)
@[go_sem↓] theorem avl(o r n):sE (o::r) (n+1)=sE r n:=(rfl)
@[go_sem] theorem avm(Q):fO P Γ N .skip Q σ h=Q .normal σ h:=(rfl)
@[go_sem] theorem avn(l Q):fO P Γ N (.label l) Q σ h=Q .normal σ h:=(rfl)
@[go_sem] theorem avo(l Q):fO P Γ N (.exit l) Q σ h=Q (.exit l) σ h:=(rfl)
@[go_sem] theorem avp(Q):fO P Γ N .ret Q σ h=Q .ret σ h:=(rfl)
@[go_sem] theorem avq(id l Q):fO P Γ N (.region id l.toArray false) Q σ h=ke P Γ l (Q .normal) l σ h:=(rfl)
@[go_sem] theorem avr(id l Q):fO P Γ N (.region id l.toArray true) Q σ h=(Sep σ (Aq l l)/\lZ P Γ l (Q .normal) l σ h):=(rfl)
@[go_sem↓] theorem avs(ops):Aq ops []=[]:=(rfl)
@[go_sem↓] theorem avt(ops d op ty pos after g r):Aq ops ({dst:=d,op:=op,type:=ty,pos:=pos,after:=after,guard:=g}::r)=oj op ops (Aq ops r):=(rfl)
@[go_sem↓] theorem avu(ops s):yJ ops s []=[]:=(rfl)
@[go_sem↓] theorem avv(ops s d op ty pos after g r):yJ ops s ({dst:=d,op:=op,type:=ty,pos:=pos,after:=after,guard:=g}::r)=tJ op ops s (yJ ops s r):=(rfl)
@[go_sem↓] theorem avw(s):l7 s []=false:=(rfl)
@[go_sem↓] theorem avx(s d:Nat)(op ty pos after g r):l7 s ({dst:=some d,op:=op,type:=ty,pos:=pos,after:=after,guard:=g}::r)=if d=s then true else l7 s r:=by show((some d==some s)||l7 s r)=_;by_cases e:d=s<;>simp[e]
@[go_sem↓] theorem avy(s op ty pos after g r):l7 s ({dst:=none,op:=op,type:=ty,pos:=pos,after:=after,guard:=g}::r)=l7 s r:=by show((none==some s)||l7 s r)=_;rfl
@[go_sem↓] theorem avz(l:List Oper):List.append [] l=l:=(rfl)
@[go_sem↓] theorem avA(a:Oper)(r l):List.append (a::r) l=a::List.append r l:=(rfl)
@[go_sem] theorem avB:Sep σ []=True:=(rfl)
@[go_sem] theorem avC(s s' l):Sep σ ((s,s')::l)=(IP (lk σ s) (lk σ s')/\Sep σ l):=(rfl)
@[go_sem] theorem avD(i o j o')(e:i≠j):IP (.ptr (some (i,o))) (.ptr (some (j,o')))=True:=eq_true e
@[go_sem↓] theorem avE(t)(s':Nat)(x ops l):oj (.store t (.tmp s') x) ops l=if l7 s' ops=true then l else yJ ops s' ops++l:=by show(bif l7 s' ops then l else yJ ops s' ops++l)=_;cases l7 s' ops<;>rfl
@[go_sem↓] theorem avF(t)(s s':Nat)(ops l):tJ (.load t (.tmp s)) ops s' l=if s=s' then l else(if l7 s ops=true then l else(s,s')::l):=by show(bif (s==s'||l7 s ops)then l else(s,s')::l)=_;grind
@[go_sem↓] theorem avG(x ops l):oj (.move x) ops l=l:=(rfl)
@[go_sem↓] theorem avH(x ops s l):tJ (.move x) ops s l=l:=(rfl)
@[go_sem↓] theorem avI(x ops l):oj (.assign x) ops l=l:=(rfl)
@[go_sem↓] theorem avJ(x ops s l):tJ (.assign x) ops s l=l:=(rfl)
@[go_sem↓] theorem avK(x y z ops l):oj (.pick x y z) ops l=l:=(rfl)
@[go_sem↓] theorem avL(x y ops l):oj (.build x y) ops l=l:=(rfl)
@[go_sem↓] theorem avM(x y ops s l):tJ (.build x y) ops s l=l:=(rfl)
@[go_sem↓] theorem avN(x y z ops l):oj (.buildSlice x y z) ops l=l:=(rfl)
@[go_sem↓] theorem avO(x y z ops s l):tJ (.buildSlice x y z) ops s l=l:=(rfl)
@[go_sem↓] theorem avP(x y ops l):oj (.load x y) ops l=l:=(rfl)
@[go_sem↓] theorem avQ(x y z ops s l):tJ (.store x y z) ops s l=l:=(rfl)
@[go_sem↓] theorem avR(x ops l):oj (.nilCheck x) ops l=l:=(rfl)
@[go_sem↓] theorem avS(x y z u v ops l):oj (.binOp x y z u v) ops l=l:=(rfl)
@[go_sem↓] theorem avT(x y z u v ops s l):tJ (.binOp x y z u v) ops s l=l:=(rfl)
@[go_sem↓] theorem avU(x y z ops l):oj (.unOp x y z) ops l=l:=(rfl)
@[go_sem↓] theorem avV(x y z ops l):oj (.convert x y z) ops l=l:=(rfl)
@[go_sem↓] theorem avW(x y ops l):oj (.makeInterface x y) ops l=l:=(rfl)
@[go_sem↓] theorem avX(x y z ops l):oj (.makeFunc x y z) ops l=l:=(rfl)
@[go_sem↓] theorem avY(x y z ops s l):tJ (.makeFunc x y z) ops s l=l:=(rfl)
@[go_sem↓] theorem avZ(x y z u v ops l):oj (.slice x y z u v) ops l=l:=(rfl)
@[go_sem↓] theorem av0(x y z ops l):oj (.fieldAddr x y z) ops l=l:=(rfl)
@[go_sem↓] theorem av1(x y z ops s l):tJ (.fieldAddr x y z) ops s l=l:=(rfl)
@[go_sem↓] theorem av2(x y z ops l):oj (.indexAddr x y z) ops l=l:=(rfl)
@[go_sem↓] theorem av3(x y z ops s l):tJ (.indexAddr x y z) ops s l=l:=(rfl)
@[go_sem↓] theorem av4(x y ops l):oj (.extract x y) ops l=l:=(rfl)
@[go_sem↓] theorem av5(x ops l):oj (.call x) ops l=l:=(rfl)
@[go_sem↓] theorem av6(x ops s l):tJ (.call x) ops s l=l:=(rfl)
def Q8(P:Program)(Γ:GG)(N:Nat)(b:Bool)(y:Code)(Q:Exit->Tm->AH->Prop)(σ:Tm)(h:AH):Prop:=bif b then bw P Γ N y Q σ h else fO P Γ N y Q σ h
@[go_sem] theorem av7(x y Q):fO P Γ N (.seq x y) Q σ h=fO P Γ N x (iP (Q8 P Γ N (stops x) y Q) Q) σ h:=(rfl)
@[go_sem] theorem av8(y Q):Q8 P Γ N true y Q σ h=bw P Γ N y Q σ h:=(rfl)
@[go_sem] theorem av9(y Q):Q8 P Γ N false y Q σ h=fO P Γ N y Q σ h:=(rfl)
@[go_sem] theorem av_(c x y Q):fO P Γ N (.cond c x y) Q σ h=lH (ev Γ σ c) true (fO P Γ N x Q) σ (fO P Γ N y Q) σ h:=(rfl)
@[go_sem] theorem awa(id c Q):fO P Γ N (.block id c) Q σ h=fO P Γ N c (w9 id Q) σ h:=(rfl)
@[go_sem] theorem awb(c Q):fO P Γ N (.loop c) Q σ h=bw P Γ N (.loop c) Q σ h:=(rfl)
@[go_sem] theorem awc(f ps a b Q):fO P Γ N (.rangeFunc f ps a b) Q σ h=bw P Γ N (.rangeFunc f ps a b) Q σ h:=(rfl)
@[go_sem] theorem awd(c Q):fO P Γ N (.scope c) Q σ h=bw P Γ N (.scope c) Q σ h:=(rfl)
@[go_sem↓] theorem awe(c):stops (.loop c)=true:=(rfl)
@[go_sem↓] theorem awf(f ps a b):stops (.rangeFunc f ps a b)=true:=(rfl)
@[go_sem↓] theorem awg(x y):stops (.seq x y)=(stops x||stops y):=(rfl)
@[go_sem↓] theorem awh(c x y):stops (.cond c x y)=(stops x||stops y):=(rfl)
@[go_sem↓] theorem awi(id c):stops (.block id c)=stops c:=(rfl)
@[go_sem↓] theorem awj(id ops d):stops (.region id ops d)=false:=(rfl)
@[go_sem↓] theorem awk:stops .skip=false:=(rfl)
@[go_sem↓] theorem awl:stops .ret=false:=(rfl)
@[go_sem↓] theorem awm(l):stops (.exit l)=false:=(rfl)
@[go_sem↓] theorem awn(l):stops (.label l)=false:=(rfl)
@[go_sem] theorem awo(K Q):iP K Q .normal σ h=K σ h:=(rfl)
@[go_sem] theorem awp(K Q):iP K Q .ret σ h=Q .ret σ h:=(rfl)
@[go_sem] theorem awq(K Q l):iP K Q (.exit l) σ h=Q (.exit l) σ h:=(rfl)
@[go_sem] theorem awr(id Q):w9 id Q .normal σ h=Q .normal σ h:=(rfl)
@[go_sem] theorem aws(id Q):w9 id Q .ret σ h=Q .ret σ h:=(rfl)
@[go_sem] theorem awt(id l Q):w9 id Q (.exit l) σ h=if l=id then Q .normal σ h else Q (.exit l) σ h:=(rfl)
@[go_sem] theorem awu{α L st hp inv μ}{x:α}{Q}:MA L st hp inv μ x Q .ret σ h=Q .ret σ h:=(rfl)
@[go_sem] theorem awv{α L st hp inv μ}{x:α}{Q}(l):MA L st hp inv μ x Q (.exit l) σ h=Q (.exit l) σ h:=(rfl)
theorem sJ{α L st hp inv μ}{x:α}{Q}(y)(h1:μ y<μ x)(h2:inv y)(h3:keep L σ=st y)(h4:h=hp y):
  MA L st hp inv μ x Q .normal σ h:=⟨y,h1,h2,.of_eq h3,h4⟩
@[go_sem] theorem aww(rs R):vQ P rs R .ret σ h=lE P σ h rs (vW R h):=by simp only[vQ,true_or,true_and];rfl
@[go_sem] theorem awx(rs R):vQ P rs R .normal σ h=lE P σ h rs (vW R h):=by simp only[vQ,or_true,true_and];rfl
@[go_sem] theorem awy(k):lE P σ h [] k=k []:=(rfl)
@[go_sem] theorem awz(t r k):lE P σ h (.tmp t::r) k=lE P σ h r (MF k (lk σ t)):=(rfl)
@[go_sem] theorem awA(a t r k):lE P σ h (.cell a t::r) k=oI P t (lk σ a) h (XL P σ h r k):=(rfl)
@[go_sem] theorem awB(v):oneOf [v]=v:=(rfl)
@[go_sem] theorem awC:oneOf []= .tuple []:=(rfl)
@[go_sem] theorem awD(v u r):oneOf (v::u::r)= .tuple (v::u::r):=(rfl)
def eW(P:Program)(Γ:GG)(op:Op)(K:AV->Tm->AH->Prop)(σ:Tm)(h:AH):Prop:=
 pQ P Γ {dst:=none,op:=op,type:=0,pos:= "",after:= #[],guard:=none} K σ h
def oo(P:Program)(Γ:GG)(op:Op)(K:AV->Tm->AH->Prop)(σ:Tm)(h:AH):Prop:=
 IK P Γ {dst:=none,op:=op,type:=0,pos:= "",after:= #[],guard:=none} K σ h
@[go_sem] theorem awE(ops K):ke P Γ ops K [] σ h=K σ h:=(rfl)
@[go_sem] theorem awF(ops K):lZ P Γ ops K [] σ h=K σ h:=(rfl)
def Q9(P:Program)(Γ:GG)(ops:List Oper)(K:KB)(rest:List Oper)(d:Option Tmp)(v:AV)(σ:Tm)(h:AH):Prop:=ke P Γ ops K rest (put d v σ) h
def Q_(P:Program)(Γ:GG)(ops:List Oper)(K:KB)(rest:List Oper)(d:Option Tmp)(v:AV)(σ:Tm)(h:AH):Prop:=lZ P Γ ops K rest (put d v σ) h
def XM(P:Program)(Γ:GG)(ops:List Oper)(K:KB)(rest:List Oper)(d:Option Tmp)(σ:Tm)(h:AH):Prop:=ke P Γ ops K rest (put d (.tuple []) σ) h
def XN(P:Program)(Γ:GG)(ops:List Oper)(K:KB)(rest:List Oper)(d:Option Tmp)(σ:Tm)(h:AH):Prop:=lZ P Γ ops K rest (put d (.tuple []) σ) h
@[go_sem] theorem awG(ops K rest d v):Q9 P Γ ops K rest d v σ h=ke P Γ ops K rest (put d v σ) h:=(rfl)
@[go_sem] theorem awH(ops K rest d v):Q_ P Γ ops K rest d v σ h=lZ P Γ ops K rest (put d v σ) h:=(rfl)
@[go_sem] theorem awI(ops K rest d):XM P Γ ops K rest d σ h=ke P Γ ops K rest (put d (.tuple []) σ) h:=(rfl)
@[go_sem] theorem awJ(ops K rest d):XN P Γ ops K rest d σ h=lZ P Γ ops K rest (put d (.tuple []) σ) h:=(rfl)
@[go_sem] theorem awK(ops)(K:KB)(d op ty pos after rest):
  ke P Γ ops K ({dst:=d,op:=op,type:=ty,pos:=pos,after:=after,guard:=none}::rest) σ h=eW P Γ op (Q9 P Γ ops K rest d) σ h:=(rfl)
@[go_sem] theorem awL(ops)(K:KB)(d op ty pos after rest):
  lZ P Γ ops K ({dst:=d,op:=op,type:=ty,pos:=pos,after:=after,guard:=none}::rest) σ h=oo P Γ op (Q_ P Γ ops K rest d) σ h:=(rfl)
@[go_sem] theorem awM(ops)(K:KB)(d op ty pos after j want rest):
  ke P Γ ops K ({dst:=d,op:=op,type:=ty,pos:=pos,after:=after,guard:=some (j,want)}::rest) σ h=MH (sE ops j) want (eW P Γ op (Q9 P Γ ops K rest d)) (XM P Γ ops K rest d) σ h:=(rfl)
@[go_sem] theorem awN(ops)(K:KB)(d op ty pos after j want rest):
  lZ P Γ ops K ({dst:=d,op:=op,type:=ty,pos:=pos,after:=after,guard:=some (j,want)}::rest) σ h=MH (sE ops j) want (oo P Γ op (Q_ P Γ ops K rest d)) (XN P Γ ops K rest d) σ h:=(rfl)
def Ra(P:Program)(Γ:GG)(f:AV)(cD:List AV)(h:AH)(R:AV->AH->Prop):Prop:=match f with
 | .func g first cap=>az P Γ g (first++cD++cap) h R
 | .yield l=>rD P Γ l cD h R
 |_=>False
@[go_sem] theorem awO(g first cap cD R):Ra P Γ (.func g first cap) cD h R=az P Γ g (first++cD++cap) h R:=(rfl)
@[go_sem] theorem awP(l cD R):Ra P Γ (.yield l) cD h R=rD P Γ l cD h R:=(rfl)
def gY(P:Program)(Γ:GG)(g:FuncId)(cD:List AV)(h:AH)(K:AV->Prop):Prop:=∃v,(∀l,az P Γ g cD (h++l) (fun v' h'=>h'=h++l/\v'=v))/\K v
@[go_sem] theorem awQ(g first cap cD K):Mo P Γ (.func g first cap) cD h K=gY P Γ g (first++cD++cap) h K:=(rfl)
theorem gY.intro{g cD K v}(H:∀l,az P Γ g cD (h++l) fun v' h'=>h'=h++l/\v'=v)(hK:K v):gY P Γ g cD h K:=⟨v,H,hK⟩
theorem az.cv{g cD R v}(H:az P Γ g cD h fun v' h'=>h'=h/\v'=v)(hR:R v h):az P Γ g cD h R:=H.mono fun v' h' e=>by grind
theorem az.then{g cD R R'}(H:az P Γ g cD h R')(hR:∀v h',R' v h'->R v h'):az P Γ g cD h R:=H.mono hR
@[go_sem] theorem awR(K v):FH K σ v h=K v σ h:=(rfl)
def MI(c a b:AV)(K:AV->Prop):Prop:=match c with
 | .bool t=>K (if t then a else b)
 |_=>False
@[go_sem] theorem awS(a b K):MI (.bool true) a b K=K a:=(rfl)
@[go_sem] theorem awT(a b K):MI (.bool false) a b K=K b:=(rfl)
@[go_sem] theorem awU(x K):eW P Γ (.move x) K σ h=(K ((ev Γ σ x)) σ h):=(rfl)
@[go_sem] theorem awV(x K):oo P Γ (.move x) K σ h=(K ((ev Γ σ x)) σ h):=by show dS P Γ σ h (.move x) (fun v h'=>h'=h/\K v σ h)=_;simp only[dS,true_and]<;>rfl
@[go_sem] theorem awW(x K):eW P Γ (.assign x) K σ h=(K ((ev Γ σ x)) σ h):=(rfl)
@[go_sem] theorem awX(x K):oo P Γ (.assign x) K σ h=(K ((ev Γ σ x)) σ h):=by show dS P Γ σ h (.assign x) (fun v h'=>h'=h/\K v σ h)=_;simp only[dS,true_and]<;>rfl
@[go_sem] theorem awY(c a b K):eW P Γ (.pick c a b) K σ h=(MI (ev Γ σ c) (ev Γ σ a) (ev Γ σ b) (kN K σ h)):=(rfl)
@[go_sem] theorem awZ(c a b K):oo P Γ (.pick c a b) K σ h=(MI (ev Γ σ c) (ev Γ σ a) (ev Γ σ b) (kN K σ h)):=by show dS P Γ σ h (.pick c a b) (fun v h'=>h'=h/\K v σ h)=_;simp only[dS,true_and]<;>rfl
@[go_sem] theorem aw0(t K):eW P Γ (.alloc t) K σ h=(vD P t h (vV K σ)):=(rfl)
@[go_sem] theorem aw1(t x K):eW P Γ (.box t x) K σ h=(Dc t (ev Γ σ x) h (vV K σ)):=(rfl)
@[go_sem] theorem aw2(t ps K):eW P Γ (.build t ps) K σ h=(kq P t (jV Γ σ ps) (kN K σ h)):=(rfl)
@[go_sem] theorem aw3(t ps K):oo P Γ (.build t ps) K σ h=(kq P t (jV Γ σ ps) (kN K σ h)):=by show dS P Γ σ h (.build t ps) (fun v h'=>h'=h/\K v σ h)=_;simp only[dS,true_and]<;>rfl
@[go_sem] theorem aw4(t n ps K):oo P Γ (.buildSlice t n ps) K σ h=(vF P t n (jV Γ σ ps) (kN K σ h)):=by show dS P Γ σ h (.buildSlice t n ps) (fun v h'=>h'=h/\K v σ h)=_;simp only[dS,true_and]<;>rfl
@[go_sem] theorem aw5(t a K):eW P Γ (.load t a) K σ h=(oI P t (ev Γ σ a) h (vV K σ)):=(rfl)
@[go_sem] theorem aw6(t a K):oo P Γ (.load t a) K σ h=(oI P t (ev Γ σ a) h (MC K σ h)):=(rfl)
@[go_sem] theorem aw7(t a x K):eW P Γ (.store t a x) K σ h=(vC P t (ev Γ σ a) (ev Γ σ x) h (I3 K σ)):=(rfl)
@[go_sem] theorem aw8(t a x K):oo P Γ (.store t a x) K σ h=(vC P t (ev Γ σ a) (ev Γ σ x) h (I3 K σ)):=(rfl)
@[go_sem] theorem aw9(x K):eW P Γ (.nilCheck x) K σ h=(BS (ev Γ σ x) (kN K σ h)):=(rfl)
@[go_sem] theorem aw_(x K):oo P Γ (.nilCheck x) K σ h=(BS (ev Γ σ x) (kN K σ h)):=by show dS P Γ σ h (.nilCheck x) (fun v h'=>h'=h/\K v σ h)=_;simp only[dS,true_and]<;>rfl
@[go_sem] theorem axa(op t x y u K):oo P Γ (.binOp op t x y u) K σ h=(uy P op t (ev Γ σ x) (ev Γ σ y) (kN K σ h)):=by show dS P Γ σ h (.binOp op t x y u) (fun v h'=>h'=h/\K v σ h)=_;simp only[dS,true_and]<;>rfl
@[go_sem] theorem axb(op t x K):eW P Γ (.unOp op t x) K σ h=(yu op (ev Γ σ x) (kN K σ h)):=(rfl)
@[go_sem] theorem axc(op t x K):oo P Γ (.unOp op t x) K σ h=(yu op (ev Γ σ x) (kN K σ h)):=by show dS P Γ σ h (.unOp op t x) (fun v h'=>h'=h/\K v σ h)=_;simp only[dS,true_and]<;>rfl
@[go_sem] theorem axd(s t x K):eW P Γ (.convert s t x) K σ h=(z7 P s t (ev Γ σ x) (kN K σ h)):=(rfl)
@[go_sem] theorem axe(s t x K):oo P Γ (.convert s t x) K σ h=(z7 P s t (ev Γ σ x) (kN K σ h)):=by show dS P Γ σ h (.convert s t x) (fun v h'=>h'=h/\K v σ h)=_;simp only[dS,true_and]<;>rfl
@[go_sem] theorem axf(f)(a b:List Operand)(K):eW P Γ (.makeFunc (.func f) a.toArray b.toArray) K σ h=(K ((.func f (a.map (ev Γ σ)) (b.map (ev Γ σ)))) σ h):=(rfl)
@[go_sem] theorem axg(f)(a b:List Operand)(K):oo P Γ (.makeFunc (.func f) a.toArray b.toArray) K σ h=(K ((.func f (a.map (ev Γ σ)) (b.map (ev Γ σ)))) σ h):=by show dS P Γ σ h (.makeFunc (.func f) a.toArray b.toArray) (fun v h'=>h'=h/\K v σ h)=_;simp only[dS,true_and]<;>rfl
@[go_sem] theorem axh(t K):eW P Γ (.makeMap t none) K σ h=(L5 h (vV K σ)):=(rfl)
@[go_sem] theorem axi(t x lo hi mx K):eW P Γ (.slice t x lo hi mx) K σ h=(wU P t (ev Γ σ x) (lo.map (ev Γ σ)) (hi.map (ev Γ σ)) (mx.map (ev Γ σ)) (kN K σ h)):=(rfl)
@[go_sem] theorem axj(t x lo hi mx K):oo P Γ (.slice t x lo hi mx) K σ h=(wU P t (ev Γ σ x) (lo.map (ev Γ σ)) (hi.map (ev Γ σ)) (mx.map (ev Γ σ)) (kN K σ h)):=by show dS P Γ σ h (.slice t x lo hi mx) (fun v h'=>h'=h/\K v σ h)=_;simp only[dS,true_and]<;>rfl
@[go_sem] theorem axk(s x f K):eW P Γ (.fieldAddr s x f) K σ h=(yq P s (ev Γ σ x) f (kN K σ h)):=(rfl)
@[go_sem] theorem axl(s x f K):oo P Γ (.fieldAddr s x f) K σ h=(yq P s (ev Γ σ x) f (kN K σ h)):=by show dS P Γ σ h (.fieldAddr s x f) (fun v h'=>h'=h/\K v σ h)=_;simp only[dS,true_and]<;>rfl
@[go_sem] theorem axm(t x i K):eW P Γ (.indexAddr t x i) K σ h=(yr P t (ev Γ σ x) (ev Γ σ i) (kN K σ h)):=(rfl)
@[go_sem] theorem axn(t x i K):oo P Γ (.indexAddr t x i) K σ h=(yr P t (ev Γ σ x) (ev Γ σ i) (kN K σ h)):=by show dS P Γ σ h (.indexAddr t x i) (fun v h'=>h'=h/\K v σ h)=_;simp only[dS,true_and]<;>rfl
@[go_sem] theorem axo(t l c K):eW P Γ (.makeSlice t l c) K σ h=(tC P t (ev Γ σ l) (ev Γ σ c) h (vV K σ)):=(rfl)
@[go_sem] theorem axp(t x i K):eW P Γ (.index t x i) K σ h=(Af P t (ev Γ σ x) (ev Γ σ i) (kN K σ h)):=(rfl)
@[go_sem] theorem axq(t m k ok K):eW P Γ (.lookup t m k ok) K σ h=(BQ (uz P t) P t (ev Γ σ m) (ev Γ σ k) ok h (kN K σ h)):=(rfl)
@[go_sem] theorem axr(t m k x K):eW P Γ (.mapUpdate t m k x) K σ h=(vN (uz P t) P t (ev Γ σ m) (ev Γ σ k) (ev Γ σ x) h (I3 K σ)):=(rfl)
@[go_sem] theorem axs(t m k x K):eW P Γ (.insert t m k x) K σ h=(vN (uz P t) P t (ev Γ σ m) (ev Γ σ k) (ev Γ σ x) h (I3 K σ)):=(rfl)
@[go_sem] theorem axt(x i K):eW P Γ (.extract x i) K σ h=(yv (ev Γ σ x) i (kN K σ h)):=(rfl)
@[go_sem] theorem axu(x i K):oo P Γ (.extract x i) K σ h=(yv (ev Γ σ x) i (kN K σ h)):=by show dS P Γ σ h (.extract x i) (fun v h'=>h'=h/\K v σ h)=_;simp only[dS,true_and]<;>rfl
@[go_sem] theorem axv(t x K):eW P Γ (.makeInterface t x) K σ h=(BO (tD P t) t (ev Γ σ x) (kN K σ h)):=(rfl)
@[go_sem] theorem axw(t x K):oo P Γ (.makeInterface t x) K σ h=(BO (tD P t) t (ev Γ σ x) (kN K σ h)):=by show dS P Γ σ h (.makeInterface t x) (fun v h'=>h'=h/\K v σ h)=_;simp only[dS,true_and]<;>rfl
@[go_sem] theorem axx(x xt t ok K):eW P Γ (.typeAssert x xt t ok) K σ h=(qk (wY P t) (ev Γ σ x) t ok (kN K σ h)):=(rfl)
@[go_sem] theorem axy(b)(cD:List Operand)(ts K):oo P Γ (.call {callee:= .builtin b,args:=cD.toArray,argTypes:=ts.toArray}) K σ h=(pO P b ts (cD.map (ev Γ σ)) h (MD (Q6 b) K σ h)):=by cases b<;>rfl
@[go_sem] theorem axz:mF []=false:=(rfl)
@[go_sem] theorem axA:It (.tuple [])=true:=(rfl)
@[go_sem] theorem axB(j v):mF ((j,v)::σ)=if j=1000000 then It v else mF σ:=by simp only[mF,lk];grind
@[go_sem] theorem axC:mB []=false:=(rfl)
@[go_sem] theorem axD(j v):mB ((j,v)::σ)=if j=1000001 then It v else mB σ:=by simp only[mB,lk];grind
def MJ(m:Bool)(P:Program)(t:TypeId)(n:Nat)(ps:List (Nat×AV))(h:AH)(K:AV->AH->Prop):Prop:=if m then yC P t n ps h K else vF P t n ps fun v=>K v h
@[go_sem] theorem axE(t n ps K):MJ true P t n ps h K=yC P t n ps h K:=(rfl)
@[go_sem] theorem axF(t n ps K):MJ false P t n ps h (vV K σ)=vF P t n ps (kN K σ h):=(rfl)
@[go_sem] theorem axG(t n ps)(K:KT):eW P Γ (.buildSlice t n ps) K σ h=MJ (mF σ) P t n (jV Γ σ ps) h (vV K σ):=by
 show(match(if mF σ then some (yC P t n (jV Γ σ ps) h fun v h'=>K v σ h')else none:Option Prop)with
  |some p=>p
  |none=>vF P t n (jV Γ σ ps) fun v=>K v σ h)=_
 unfold MJ;cases mF σ<;>rfl
@[go_sem] theorem axH(t x K):BO true t x K=K (.iface t x):=by simp[BO]
@[go_sem] theorem axI(z v t K):qk (some z) (.iface t v) t true K=K (.tuple [v,.bool true]):=by simp[qk]
@[go_sem] theorem axJ(t):Ah (.tmp t)=false:=(rfl)
@[go_sem] theorem axK(k n):Ah (.const (.int k n))=false:=(rfl)
@[go_sem] theorem axL(b):Ah (.const (.string b))=false:=(rfl)
@[go_sem] theorem axM:Ah (.const .nilIface)=true:=(rfl)
def I5(b:Bool)(P:Program)(op:BinOp)(t:TypeId)(x y:AV)(K:AV->Prop):Prop:=if b then BP P t op x K else uy P op t x y K
@[go_sem] theorem axN(op t x y K):I5 false P op t x y K=uy P op t x y K:=(rfl)
@[go_sem] theorem axO(op t x y K):I5 true P op t x y K=BP P t op x K:=(rfl)
def MK(P:Program)(t:TypeId):Bool:=match P.underlying t with
 |some (.interface _)=>true
 |_=>false
def ML(b:Bool)(op:BinOp)(x:AV)(K:AV->Prop):Prop:=match b,op,x with
 |true,.eql,.iface _ _=>K (.bool false)
 |true,.neq,.iface _ _=>K (.bool true)
 |true,.eql,.nilIface=>K (.bool true)
 |true,.neq,.nilIface=>K (.bool false)
 |_,_,_=>False
@[go_sem] theorem axP(t op x K):BP P t op x K=ML (MK P t) op x K:=by unfold BP ML MK;grind
@[go_sem] theorem axQ(t v K):ML true .neq (.iface t v) K=K (.bool true):=(rfl)
@[go_sem] theorem axR(K):ML true .neq .nilIface K=K (.bool false):=(rfl)
def MM(b:Bool)(c:Bool)(P:Program)(op:BinOp)(t:TypeId)(x y:AV)(K:AV->Prop):Prop:=if b then BN P t op x K else I5 c P op t x y K
@[go_sem] theorem axS(c op t x y K):MM false c P op t x y K=I5 c P op t x y K:=(rfl)
@[go_sem] theorem axT(c op t x y K):MM true c P op t x y K=BN P t op x K:=(rfl)
@[go_sem] theorem axU(t):yB (.tmp t)=false:=(rfl)
@[go_sem] theorem axV(k n):yB (.const (.int k n))=false:=(rfl)
@[go_sem] theorem axW(b):yB (.const (.string b))=false:=(rfl)
@[go_sem] theorem axX:yB (.const .nilIface)=false:=(rfl)
@[go_sem] theorem axY:yB (.const (.slice none 0 0))=true:=(rfl)
@[go_sem] theorem axZ(op t x y u)(K:KT):eW P Γ (.binOp op t x y u) K σ h=MM (yB y) (Ah y) P op t (ev Γ σ x) (ev Γ σ y) (kN K σ h):=by
 show(match(if yB y then some (BN P t op (ev Γ σ x) fun v=>K v σ h)else if Ah y then some (BP P t op (ev Γ σ x) fun v=>K v σ h)else none:Option Prop)with
  |some p=>p
  |none=>uy P op t (ev Γ σ x) (ev Γ σ y) fun v=>K v σ h)=_
 unfold MM I5;cases yB y<;>cases Ah y<;>rfl
def MN(m:Bool)(P:Program)(ts:List TypeId)(xs:List AV)(h:AH)(K:AV->AH->Prop):Prop:=if m then(match ts,xs with
 |[t,u],[s,x]=>wW P t u s x h K
 |_,_=>False)else pO P .append ts xs h K
@[go_sem] theorem ax0(t u s x K):MN true P [t,u] [s,x] h K=wW P t u s x h K:=(rfl)
@[go_sem] theorem ax1(ts xs K):MN false P ts xs h K=pO P .append ts xs h K:=(rfl)
@[go_sem] theorem ax2(cD:List Operand)(ts)(K:KT):eW P Γ (.call {callee:= .builtin .append,args:=cD.toArray,argTypes:=ts.toArray}) K σ h=MN (mF σ||mB σ) P ts (cD.map (ev Γ σ)) h (vV K σ):=by
 show(match(if(mF σ||mB σ)then some (match ts,cD with
   |[t,u],[s,x]=>wW P t u (ev Γ σ s) (ev Γ σ x) h fun v h'=>K v σ h'
   |_,_=>False)else none:Option Prop)with
  |some p=>p
  |none=>pO P .append ts (cD.map (ev Γ σ)) h fun v h'=>K v σ h')=_
 unfold MN;generalize(mF σ||mB σ)=b;cases b with
 |false=>rfl
 |true=>
  simp only[if_true];match ts,cD with
  |[],_=>rfl
  |[_],_=>rfl
  |[_,_],[]=>rfl
  |[_,_],[_]=>rfl
  |[_,_],[_,_]=>rfl
  |[_,_],_::_::_::_=>rfl
  |_::_::_::_,_=>rfl
@[go_sem] theorem ax3(cD:List Operand)(ts)(K:KT):eW P Γ (.call {callee:= .builtin .len,args:=cD.toArray,argTypes:=ts.toArray}) K σ h=pO P .len ts (cD.map (ev Γ σ)) h (vV K σ):=(rfl)
@[go_sem] theorem ax4(cD:List Operand)(ts)(K:KT):eW P Γ (.call {callee:= .builtin .max,args:=cD.toArray,argTypes:=ts.toArray}) K σ h=pO P .max ts (cD.map (ev Γ σ)) h (vV K σ):=(rfl)
@[go_sem] theorem ax5(f)(cD:List Operand)(ts K):eW P Γ (.call {callee:= .value f,args:=cD.toArray,argTypes:=ts}) K σ h=Ra P Γ (ev Γ σ f) (cD.map (ev Γ σ)) h (FH K σ):=(rfl)
@[go_sem] theorem ax6(f)(cD:List Operand)(ts K):oo P Γ (.call {callee:= .value f,args:=cD.toArray,argTypes:=ts}) K σ h=Mo P Γ (ev Γ σ f) (cD.map (ev Γ σ)) h (kN K σ h):=(rfl)
@[go_sem] theorem ax7(t x K):Dc t x h K=(x.nA=true/\K (.ptr (some (h.length,0))) (h++[.row x.cells t])):=(rfl)
@[go_sem] theorem ax8(K):L5 h K=K (.map (some h.length)) (h++[.map [] 0]):=(rfl)
def Rb(t:TypeId)(z:Option (List AV))(h:AH)(K:AV->AH->Prop):Prop:=match z with
 |some z=>K (.ptr (some (h.length,0))) (h++[.row z t])
 |none=>False
@[go_sem] theorem ax9(t K):vD P t h K=Rb t (fw P t) h K:=by unfold vD Rb fw;cases jy P t<;>rfl
@[go_sem] theorem ax_(t z K):Rb t (some z) h K=K (.ptr (some (h.length,0))) (h++[.row z t]):=(rfl)
def Rc(g:Option (Option Nat))(cs:List AV)(k:AV->Prop):Prop:=match g with
 |some (some n)=>n<=cs.length/\k (.agg (cs.take n))
 |some none=>(match cs with
  |c::_=>k c
  |[]=>False)
 |none=>False
@[go_sem] theorem aya(t cs k):rz P t cs k=Rc (tag P t) cs k:=by
 unfold rz tag;cases P.underlying t with
 |none=>rfl
 |some d=>
  simp only;cases HR d with
  |true=>simp only[if_true];cases dA P t<;>rfl
  |false=>rfl
@[go_sem] theorem ayb(n cs k):Rc (some (some n)) cs k=(n<=cs.length/\k (.agg (cs.take n))):=(rfl)
@[go_sem] theorem ayc(c r k):Rc (some none) (c::r) k=k c:=(rfl)
def XO(P:Program)(t:TypeId)(o:Nat)(ob:Option cO)(k:AV->Prop):Prop:=match ob with
 |some (.row cs _)=>rz P t (cs.drop o) k
 |_=>False
@[go_sem] theorem ayd(t i o K):oI P t (.ptr (some (i,o))) h K=XO P t o (h[i]?) (I4 K h):=(rfl)
@[go_sem] theorem aye(t cs K):oI P t (.bS cs) h K=rz P t cs (I4 K h):=(rfl)
@[go_sem] theorem ayf(t o cs T k):XO P t o (some (.row cs T)) k=rz P t (cs.drop o) k:=(rfl)
def Re(P:Program)(t:TypeId)(o:Nat)(x:AV)(ob:Option cO)(k:cO->Prop):Prop:=match ob with
 |some (.row cs T)=>dA P t=some x.cells.length/\x.nA=true/\o+x.cells.length<=cs.length/\k (.row (iU cs o x.cells) T)
 |_=>False
@[go_sem] theorem ayg(t i o x K):vC P t (.ptr (some (i,o))) x h K=Re P t o x (h[i]?) (Q7 K h i):=by unfold vC Re Q7;simp only;split<;>simp_all
@[go_sem] theorem ayh(t o x cs T k):
  Re P t o x (some (.row cs T)) k=(dA P t=some x.cells.length/\x.nA=true/\o+x.cells.length<=cs.length/\k (.row (iU cs o x.cells) T)):=(rfl)
@[go_sem] theorem ayi(p K):BS (.ptr (some p)) K=K (.ptr (some p)):=(rfl)
def DF(o:Option Nat)(a:AV)(K:AV->Prop):Prop:=match o with
 |some o=>(match a with
  | .ptr (some (i,p))=>K (.ptr (some (i,p+o)))
  | .bS cs=>K (.bS (cs.drop o))
  |_=>False)
 |none=>False
@[go_sem] theorem ayj(s a f K):yq P s a f K=DF (gA P s f) a K:=by
 unfold yq gA XJ;split
 .rename_i fields hs;simp only[hs];cases hf:fields[f]? with
  |none=>simp[DF]
  |some fd=>
   simp only[Option.map_some];cases hz:dA P fd.type with
   |none=>simp[DF]
   |some n=>cases n with
    |zero=>simp[DF]
    |succ n=>simp only[DF];grind
 .rename_i hs;split
  .grind
  .rfl
@[go_sem] theorem ayk(o i p K):DF (some o) (.ptr (some (i,p))) K=K (.ptr (some (i,p+o))):=(rfl)
@[go_sem] theorem ayl(o cs K):DF (some o) (.bS cs) K=K (.bS (cs.drop o)):=(rfl)
def I6(sz:Nat)(r:Option AV)(K:AV->Prop):Prop:=∃x,r=some x/\x.cells.length=sz/\K (.bS x.cells)
@[go_sem] theorem aym(sz x K):I6 sz (some x) K=(x.cells.length=sz/\K (.bS x.cells)):=by unfold I6;grind
def DG(d:Option (Option Nat×Nat))(x i:AV)(K:AV->Prop):Prop:=match i with
 | .int _ n=>(match d,x with
  |some (none,sz),.sl rows _=>sz≠0/\0<=n/\I6 sz (rows[n.toNat]?) K
  |some (none,sz),.ms j off len _ _=>0<=n/\n<len/\K (.ptr (some (j,off+n.toNat*sz)))
  |some (some len,sz),.ptr (some (j,o))=>0<=n/\n<len/\K (.ptr (some (j,o+n.toNat*sz)))
  |some (some len,sz),.bS cs=>0<=n/\n<len/\K (.bS (cs.drop (n.toNat*sz)))
  |_,_=>False)
 |_=>False
@[go_sem] theorem ayn(t x i K):yr P t x i K=DG (pT P t) x i K:=by
 unfold yr pT;cases i with
 |int k n=>
  simp only;cases P.underlying t with
  |none=>rfl
  |some d=>cases d with
   |slice e=>
    simp only;cases dA P e with
    |none=>rfl
    |some sz=>cases x<;>first|rfl|(simp only[Option.map_some,DG,I6];done)
   |array len e=>
    simp only;cases dA P e with
    |none=>rfl
    |some sz=>
     simp only[Option.map_some,DG];grind
   |_=>rfl
 |_=>rfl
@[go_sem] theorem ayo(sz rows own k n K):DG (some (none,sz)) (.sl rows own) (.int k n) K=(sz≠0/\0<=n/\I6 sz (rows[n.toNat]?) K):=(rfl)
@[go_sem] theorem ayp(sz j off len c s k n K):DG (some (none,sz)) (.ms j off len c s) (.int k n) K=(0<=n/\n<len/\K (.ptr (some (j,off+n.toNat*sz)))):=(rfl)
@[go_sem] theorem ayq(len sz j o k n K):DG (some (some len,sz)) (.ptr (some (j,o))) (.int k n) K=(0<=n/\n<len/\K (.ptr (some (j,o+n.toNat*sz)))):=(rfl)
@[go_sem] theorem ayr(len sz cs k n K):DG (some (some len,sz)) (.bS cs) (.int k n) K=(0<=n/\n<len/\K (.bS (cs.drop (n.toNat*sz)))):=(rfl)
def Rf(o:Option AV)(K:AV->Prop):Prop:=match o with
 |some v=>K v
 |none=>False
@[go_sem] theorem ays(vs i K):yv (.tuple vs) i K=Rf (vs[i]?) K:=by cases h:vs[i]? <;>simp[yv,Rf,h]
@[go_sem] theorem ayt(v K):Rf (some v) K=K v:=(rfl)
@[go_sem] theorem ayu(b K):yu .not (.bool b) K=K (.bool (!b)):=(rfl)
@[go_sem] theorem ayv(k n K):yu .neg (.int k n) K=K (.int k (k.wrap (0-n))):=(rfl)
def XP(d:Option (Option IntKind))(x:AV)(K:AV->Prop):Prop:=match d,x with
 |some (some k),.int _ n=>K (.int k (k.wrap n))
 |some none,.str s=>K (.str s)
 |_,_=>False
@[go_sem] theorem ayw(s t x K):wL P s t x K=XP (DE P s t) x K:=by
 unfold wL DE;cases P.underlying s with
 |none=>rfl
 |some d=>cases P.underlying t with
  |none=>rfl
  |some e=>cases e<;>cases x<;>rfl
@[go_sem] theorem ayx(k k' n K):XP (some (some k)) (.int k' n) K=K (.int k (k.wrap n)):=(rfl)
@[go_sem] theorem ayy(op t k k' a b K):su P op t (.int k a) (.int k' b) K=jq op k a k' b K:=(rfl)
@[go_sem] theorem ayz(op t a b K):su P op t (.str a) (.str b) K=zO op a b K:=(rfl)
theorem XQ(t):P.underlying t=some .bool<->I1 P t=true:=by unfold I1;grind
@[go_sem] theorem ayA(t a b K):su P .eql t (.bool a) (.bool b) K=(I1 P t=true/\K (.bool (a==b))):=by rw[<-XQ];rfl
@[go_sem] theorem ayB(t a b K):su P .neq t (.bool a) (.bool b) K=(I1 P t=true/\K (.bool (!(a==b)))):=by rw[<-XQ];rfl
@[go_sem] theorem ayC(k a b K):jq .add k a k b K=K (.int k (k.wrap (a+b))):=by simp[jq]
@[go_sem] theorem ayD(k a b K):jq .sub k a k b K=K (.int k (k.wrap (a-b))):=by simp[jq]
@[go_sem] theorem ayE(k a b K):jq .mul k a k b K=K (.int k (k.wrap (a*b))):=by simp[jq]
@[go_sem] theorem ayF(k a b K):jq .quo k a k b K=(b≠0/\K (.int k (k.wrap (a.tdiv b)))):=by simp[jq]
@[go_sem] theorem ayG(k a b K):jq .rem k a k b K=(b≠0/\K (.int k (a.tmod b))):=by simp[jq]
@[go_sem] theorem ayH(k k' a b K):jq .shl k a k' b K=(0<=b/\K (.int k (k.wrap (a*2^(min b.toNat k.bits))))):=(rfl)
@[go_sem] theorem ayI(k k' a b K):jq .shr k a k' b K=(0<=b/\K (.int k (a.fdiv (2^(min b.toNat k.bits))))):=(rfl)
@[go_sem] theorem ayJ(k a b K):jq .eql k a k b K=K (.bool (decide (a=b))):=by simp[jq]
@[go_sem] theorem ayK(k a b K):jq .neq k a k b K=K (.bool (decide (¬a=b))):=by simp[jq]
@[go_sem] theorem ayL(k a b K):jq .lss k a k b K=K (.bool (decide (a<b))):=by simp[jq]
@[go_sem] theorem ayM(k a b K):jq .leq k a k b K=K (.bool (decide (a<=b))):=by simp[jq]
@[go_sem] theorem ayN(k a b K):jq .gtr k a k b K=K (.bool (decide (b<a))):=by simp[jq]
@[go_sem] theorem ayO(k a b K):jq .geq k a k b K=K (.bool (decide (b<=a))):=by simp[jq]
@[go_sem] theorem ayP(k a b K):jq .and k a k b K=K (.int k (BE .and k a b)):=by simp[jq]
@[go_sem] theorem ayQ(k a b K):jq .andNot k a k b K=K (.int k (BE .andNot k a b)):=by simp[jq]
@[go_sem] theorem ayR(a b K):zO .eql a b K=K (.bool (a.toList==b.toList)):=(rfl)
@[go_sem] theorem ayS(a b K):zO .neq a b K=K (.bool (!(a.toList==b.toList))):=(rfl)
def DH(pl:List (Nat×Nat))(cs:List AV)(ps:List (Nat×AV))(k:List AV->Prop):Prop:=sv (fun i=>pl[i]?) cs ps k
def Rg(pl:List (Nat×Nat))(ps:List (Nat×AV))(k:List AV->Prop)(cs:List AV):Prop:=DH pl cs ps k
@[go_sem] theorem ayT(pl ps k cs):Rg pl ps k cs=DH pl cs ps k:=(rfl)
def I7(d:Option (Nat×Nat))(x:AV)(cs:List AV)(k:List AV->Prop):Prop:=match d with
 |none=>False
 |some (o,n)=>x.cells.length=n/\(x.one=true\/∃cs,x= .agg cs)/\o+n<=cs.length/\k (iU cs o x.cells)
@[go_sem] theorem ayU(pl cs k):DH pl cs [] k=k cs:=(rfl)
@[go_sem] theorem ayV(pl cs i x r k):DH pl cs ((i,x)::r) k=I7 (pl[i]?) x cs (Rg pl r k):=by unfold Rg DH I7;rw[sv];grind
@[go_sem] theorem ayW(o n x cs k):I7 (some (o,n)) x cs k=(x.cells.length=n/\(x.one=true\/∃cs,x= .agg cs)/\o+n<=cs.length/\k (iU cs o x.cells)):=(rfl)
def pd(pl:Option (List (Nat×Nat)))(z:Option (List AV))(ps:List (Nat×AV))(K:AV->Prop):Prop:=match pl,z with
 |some pl,some z=>DH pl z ps fun cs=>K (.agg cs)
 |_,_=>False
theorem ai9{t ps K}(H:pd (jK P t) (fw P t) ps K):kq P t ps K:=by
 unfold kq;unfold pd jK fw at H;split at H
 .rename_i pl z h1 h2;split at h1
  .rename_i fields hd;cases hz:jy P t with
   |none=>rw[hz]at h2;cases h2
   |some zz=>
    rw[hz]at h2;simp only[Option.map_some,Option.some.injEq]at h2;simp only[hd,h1];rw[h2];exact H
  .cases h1
 .exact H.elim
theorem ai_{t ps K}(hs:∃fs,P.underlying t=some (.struct fs))(H:kq P t ps K):pd (jK P t) (fw P t) ps K:=by
 obtain⟨fs,hs⟩:=hs;unfold kq at H;unfold pd jK fw;simp only[hs]at H|-;cases hz:jy P t with
 |none=>rw[hz]at H;exact H.elim
 |some z=>
  rw[hz]at H;simp only at H;cases hp:Fm P fs.toList with
  |none=>rw[hp]at H;exact H.elim
  |some pl=>rw[hp]at H;exact H
theorem uG{t}(hs:(jK P t).isSome=true)(ps K):kq P t ps K=pd (jK P t) (fw P t) ps K:=by
 refine propext ⟨fun H=>ai_ ?_ H,ai9⟩;unfold jK at hs;split at hs
 .exact⟨_,by assumption⟩
 .cases hs
@[go_sem] theorem ayY(pl z ps K):pd (some pl) (some z) ps K=DH pl z ps (ME K):=(rfl)
def DI(s:Nat)(cs:List AV)(ps:List (Nat×AV))(k:List AV->Prop):Prop:=sv (fun i=>some (i*s,s)) cs ps k
def Rh(s:Nat)(r:List (Nat×AV))(k:List AV->Prop)(cs:List AV):Prop:=DI s cs r k
def I8(d:Option (Nat×Nat))(z:Option (List AV))(ps:List (Nat×AV))(K:AV->Prop):Prop:=match d,z with
 |some (_,s),some z=>DI s z ps (ME K)
 |_,_=>False
@[go_sem] theorem ayZ(n s z ps K):I8 (some (n,s)) (some z) ps K=DI s z ps (ME K):=(rfl)
@[go_sem] theorem ay0(s cs k):DI s cs [] k=k cs:=(rfl)
@[go_sem] theorem ay1(s cs i x r k):DI s cs ((i,x)::r) k=I7 (some (i*s,s)) x cs (Rh s r k):=by unfold Rh DI I7;rw[sv]
@[go_sem] theorem ay2(s r k cs):Rh s r k cs=DI s cs r k:=(rfl)
theorem XR{t}(hs:(tB P t).isSome=true)(ps K):kq P t ps K=I8 (tB P t) (fw P t) ps K:=by
 unfold tB at hs|-;unfold kq I8 fw;split at hs
 .rename_i n e hu;simp only[hu];cases hz:dA P e with
  |none=>rw[hz]at hs;cases hs
  |some s=>
   cases jy P t with
   |none=>rfl
   |some z=>
    show(match dA P e with
     |some n=>sv (fun i=>some (i*n,n)) (z.cells.toList.map oG) ps fun cs=>K (.agg cs)
     |none=>False)=_
    rw[hz];rfl
 .cases hs
def MO(d:Option Nat)(len:Nat)(ps:List (Nat×AV))(K:AV->Prop):Prop:=match d with
 |some n=>len*n<=16777216/\ps.map (·.1)=List.range len/\(∀p∈ps,p.2.cells.length=n/\(p.2.one=true\/∃cs,p.2= .agg cs))/\K (.sl (ps.map (·.2)) .full)
 |none=>False
@[go_sem] theorem ay3(t len ps K):vF P t len ps K=MO (xh P t) len ps K:=by
 unfold vF xh;cases P.underlying t with
 |none=>rfl
 |some d=>cases d with
  |slice e=>
   simp only;cases dA P e with
   |none=>rfl
   |some n=>cases jy P e with
    |none=>rfl
    |some z=>
     simp only;by_cases hc:n≠0/\z.cells.size=n
     .rw[if_pos hc];simp only[MO];grind
     .rw[if_neg hc];simp only[MO];grind
  |_=>rfl
def yN:List (Nat×AV)->Nat->Nat->Bool
 |[],i,n=>Nat.beq i n
 |p::r,i,n=>Nat.beq p.1 i&&yN r (i+1) n
def AV.isAgg:AV->Bool
 | .agg _=>true
 |_=>false
def DJ(n:Nat):List (Nat×AV)->Prop
 |[]=>True
 |p::r=>p.2.cells.length=n/\(p.2.one||p.2.isAgg)=true/\DJ n r
theorem XS:∀(ps:List (Nat×AV)) (i n:Nat),yN ps i n=true->ps.map (·.1)=(List.range (n-i)).map (i+·)/\i<=n
 |[],i,n,h=>by have:=Nat.eq_of_beq_eq_true h;subst this;simp
 |p::r,i,n,h=>by simp only[yN,Bool.and_eq_true]at h;have h1:=Nat.eq_of_beq_eq_true h.1;obtain⟨h2,h3⟩:=XS r (i+1) n h.2;refine⟨?_,by omega⟩;rw[List.map_cons,h2,h1,show n-i=(n-(i+1))+1 by omega,List.range_succ_eq_map];simp only[List.map_cons,List.map_map,Nat.add_zero];congr 1;exact List.map_congr_left fun a _=>by simp only[Function.comp];omega
theorem XT{n:Nat}:∀{ps:List (Nat×AV)},DJ n ps->∀p∈ps,p.2.cells.length=n/\(p.2.one=true\/∃cs,p.2= .agg cs)
 |[],_,p,hp=>by cases hp
 |q::r,h,p,hp=>by
  rcases List.mem_cons.1 hp with rfl|hp
  .refine⟨h.1,?_⟩;have:=h.2.1;rw[Bool.or_eq_true]at this;rcases this with h|h
   .exact .inl h
   .right;revert h;generalize p.2=a;cases a<;>simp[AV.isAgg]
  .exact XT h.2.2 p hp
theorem XU:∀(ps:List (Nat×AV)) (i n:Nat),i<=n->ps.map (·.1)=(List.range (n-i)).map (i+·)->yN ps i n=true
 |[],i,n,hi,h=>by have:=congrArg List.length h;simp at this;rw[yN,show i=n by omega];exact Nat.beq_refl n
 |p::r,i,n,hi,h=>by have hl:=congrArg List.length h;simp at hl;rw[show n-i=(n-(i+1))+1 by omega,List.range_succ_eq_map]at h;simp only[List.map_cons,List.map_map,Nat.add_zero,List.cons.injEq]at h;simp only[yN,Bool.and_eq_true];refine⟨by rw[h.1];exact Nat.beq_refl i,XU r (i+1) n (by omega) ?_⟩;rw[h.2];exact List.map_congr_left fun a _=>by simp only[Function.comp];omega
theorem XV{n:Nat}:∀{ps:List (Nat×AV)},(∀p∈ps,p.2.cells.length=n/\(p.2.one=true\/∃cs,p.2= .agg cs))->DJ n ps
 |[],_=>trivial
 |q::r,h=>by
  refine⟨(h q (List.mem_cons_self ..)).1,?_,XV fun p hp=>h p (List.mem_cons_of_mem _ hp)⟩;rcases(h q (List.mem_cons_self ..)).2 with e|⟨cs,e⟩
  .rw[e];rfl
  .rw[e];rfl
@[go_sem] theorem ay4(n len ps K):MO (some n) len ps K=(len*n<=16777216/\yN ps 0 len=true/\DJ n ps/\K (.sl (ps.map (·.2)) .full)):=by refine propext ⟨fun H=>⟨H.1,XU ps 0 len (Nat.zero_le _) (by rw[H.2.1];simp),XV H.2.2.1,H.2.2.2⟩,fun H=>⟨H.1,?_,XT H.2.2.1,H.2.2.2⟩⟩;have:=(XS ps 0 len H.2.1).1;simpa using this
@[go_sem] theorem ay5(p r i n):yN (p::r) i n=(Nat.beq p.1 i&&yN r (i+1) n):=(rfl)
@[go_sem] theorem ay6(i n):yN [] i n=Nat.beq i n:=(rfl)
@[go_sem] theorem ay7(n:Nat):Nat.beq n n=true:=Nat.beq_refl n
@[go_sem] theorem ay8(n p r):DJ n (p::r)=(p.2.cells.length=n/\(p.2.one||p.2.isAgg)=true/\DJ n r):=(rfl)
@[go_sem] theorem ay9(n):DJ n []=True:=(rfl)
@[go_sem] theorem ay_(l):(AV.agg l).isAgg=true:=(rfl)
@[go_sem] theorem aza(op t k k' a b K):uy P op t (.int k a) (.int k' b) K=su P op t (.int k a) (.int k' b) K:=(rfl)
@[go_sem] theorem azb(op t a b K):uy P op t (.str a) (.str b) K=su P op t (.str a) (.str b) K:=(rfl)
@[go_sem] theorem azc(op t a b K):uy P op t (.bool a) (.bool b) K=su P op t (.bool a) (.bool b) K:=(rfl)
@[go_sem] theorem azd(s t k n K):z7 P s t (.int k n) K=wL P s t (.int k n) K:=(rfl)
@[go_sem] theorem aze(t r o lo hi mx K):wU P t (.sl r o) lo hi mx K=uv P t (.sl r o) lo hi mx K:=(rfl)
@[go_sem] theorem azf(t b lo hi mx K):wU P t (.str b) lo hi mx K=uv P t (.str b) lo hi mx K:=(rfl)
@[go_sem] theorem azg(t i off len cap sz lo hi mx K):wU P t (.ms i off len cap sz) lo hi mx K=uv P t (.ms i off len cap sz) lo hi mx K:=(rfl)
@[go_sem] theorem azh(k a b K):z6 (.int k a) (.int k b) K=K (.int k (if a<b then b else a)):=by simp[z6]
@[go_sem] theorem azi(ts x y K):pO P .max ts [x,y] h K=z6 x y (I4 K h):=(rfl)
def vX(d:Option (Option Nat))(x:AV)(lo hi mx:Option AV)(K:AV->Prop):Prop:=match d,x with
 |some none,.str s=>mx=none/\(match lC 0 lo,lC s.size hi with
  |some l,some h=>0<=l/\l<=h/\h<=s.size/\K (.str (s.extract l.toNat h.toNat))
  |_,_=>False)
 |some (some n),.sl rows own=>(match lC 0 lo,lC rows.length hi,lC rows.length mx with
  |some l,some h,some m=>db n rows/\0<=l/\l<=h/\h<=m/\m<=rows.length/\(mx.isSome=true->hi.isSome=true)/\K (.sl ((rows.take h.toNat).drop l.toNat) (Fx own rows.length l h mx))
  |_,_,_=>False)
 |some (some n),.ms i off len cap sz=>(match lC 0 lo,lC len hi,lC cap mx with
  |some l,some h,some m=>n=sz/\0<=l/\l<=h/\h<=m/\m<=cap/\(mx.isSome=true->hi.isSome=true)/\K (.ms i (if m=l then off else off+l.toNat*sz) (h.toNat-l.toNat) (m.toNat-l.toNat) sz)
  |_,_,_=>False)
 |_,_=>False
@[go_sem] theorem azj(t x lo hi mx K):uv P t x lo hi mx K=vX (FQ P t) x lo hi mx K:=by
 unfold uv FQ;cases P.underlying t with
 |none=>rfl
 |some d=>cases d with
  |string=>cases x<;>rfl
  |slice e=>
   simp only;cases hz:dA P e with
   |none=>cases x<;>simp only[Option.map_none,hz,vX]
   |some n=>
    cases x<;>simp only[Option.map_some,hz,vX]
    .grind
    grind
  |_=>rfl
@[go_sem] theorem azk(n rows own k l K):
  vX (some (some n)) (.sl rows own) (some (.int k l)) none none K=(db n rows/\0<=l/\l<=rows.length/\K (.sl (rows.drop l.toNat) (Fx own rows.length l rows.length none))):=by
 simp only[vX,lC,Option.isSome_none,Bool.false_eq_true,false_implies,Int.le_refl,true_and,Int.toNat_natCast,List.take_length]
@[go_sem] theorem azl(n rows own k u K):
  vX (some (some n)) (.sl rows own) none (some (.int k u)) none K=(db n rows/\0<=u/\u<=rows.length/\K (.sl (rows.take u.toNat) (Fx own rows.length 0 u none))):=by
 refine propext ⟨fun h=>?_,fun h=>?_⟩
 .obtain⟨h1,_,h3,h4,_,_,h7⟩:=h;exact⟨h1,h3,h4,h7⟩
 .obtain⟨h1,h3,h4,h7⟩:=h;exact⟨h1,Int.le_refl _,h3,h4,Int.le_refl _,(fun _=>rfl),h7⟩
@[go_sem] theorem azm(n rows own k k' u m K):
  vX (some (some n)) (.sl rows own) none (some (.int k u)) (some (.int k' m)) K=(db n rows/\0<=u/\u<=m/\m<=rows.length/\K (.sl (rows.take u.toNat) (if m=u then .full else .free))):=by
 refine propext ⟨fun h=>?_,fun h=>?_⟩
 .obtain⟨h1,_,h3,h4,h5,_,h7⟩:=h;exact⟨h1,h3,h4,h5,h7⟩
 .obtain⟨h1,h3,h4,h5,h7⟩:=h;exact⟨h1,Int.le_refl _,h3,h4,h5,(fun _=>rfl),h7⟩
@[go_sem] theorem azn(s k k' l u K):
  vX (some none) (.str s) (some (.int k l)) (some (.int k' u)) none K=(0<=l/\l<=u/\u<=s.size/\K (.str (s.extract l.toNat u.toNat))):=by simp only[vX,lC,true_and]
@[go_sem] theorem azo(s k l K):
  vX (some none) (.str s) (some (.int k l)) none none K=(0<=l/\l<=s.size/\K (.str (s.extract l.toNat s.size))):=by simp only[vX,lC,true_and,Int.le_refl,Int.toNat_natCast]
@[go_sem] theorem azp(s k u K):
  vX (some none) (.str s) none (some (.int k u)) none K=(0<=u/\u<=s.size/\K (.str (s.extract 0 u.toNat))):=by
 refine propext ⟨fun h=>?_,fun h=>?_⟩
 .obtain⟨_,_,h3,h4,h7⟩:=h;exact⟨h3,h4,h7⟩
 .obtain⟨h3,h4,h7⟩:=h;exact⟨rfl,Int.le_refl _,h3,h4,h7⟩
@[go_sem] theorem azq(n l u):Fx .free n l u none= .free:=(rfl)
@[go_sem] theorem azr(t x K):pO P .len [t] [x] h K=zV P t x h (I4 K h):=(rfl)
@[go_sem] theorem azs(t u s x K):pO P .append [t,u] [s,x] h K=nC P t u s x h K:=(rfl)
def aja(ob:Option cO)(K:AV->Prop):Prop:=match ob with
 |some (.map es _)=>K (.int .i64 es.length)
 |_=>False
def MP(d:Option MB)(x:AV)(h:AH)(K:AV->Prop):Prop:=match d,x with
 |some .str,.str s=>K (.int .i64 s.size)
 |some .sl,.sl rows _=>K (.int .i64 rows.length)
 |some .sl,.ms _ _ len _ _=>K (.int .i64 len)
 |some (.arr n),_=>K (.int .i64 n)
 |some .map,.map none=>K (.int .i64 0)
 |some .map,.map (some i)=>aja (h[i]?) K
 |_,_=>False
@[go_sem] theorem azt(t x K):zV P t x h K=MP (oM P t) x h K:=by
 unfold zV oM;cases P.underlying t with
 |none=>rfl
 |some d=>cases d<;>cases x<;>first|rfl|(rename_i p;cases p<;>rfl)
@[go_sem] theorem azu(s K):MP (some .str) (.str s) h K=K (.int .i64 s.size):=(rfl)
@[go_sem] theorem azv(r o K):MP (some .sl) (.sl r o) h K=K (.int .i64 r.length):=(rfl)
@[go_sem] theorem azw(i o l c s K):MP (some .sl) (.ms i o l c s) h K=K (.int .i64 l):=(rfl)
def DK:Bool->AV->Bool
 |true,.int _ _=>true
 |false,.str _=>true
 |_,_=>false
def Ri(d:Option (Bool×AV))(m k:AV)(ok:Bool)(h:AH)(K:AV->Prop):Prop:=match d with
 |some (b,z)=>DK b k=true/\BJ z m k ok h K
 |none=>False
@[go_sem] theorem azx(k n):DK true (.int k n)=true:=(rfl)
theorem XW(kk k):vM (.int kk) k=DK true k:=by cases k<;>rfl
theorem XX(k):vM .string k=DK false k:=by cases k<;>rfl
@[go_sem] theorem azy(t m k ok K):zW P t m k ok h K=Ri (I0 P t) m k ok h K:=by
 unfold zW I0;cases P.underlying t with
 |none=>rfl
 |some d=>cases d with
  |map kt et=>
   simp only;cases P.underlying kt with
   |none=>rfl
   |some kd=>cases jy P et with
    |none=>cases kd<;>rfl
    |some z=>cases kd<;>simp only[Ri,XW,XX]<;>simp[vM]
  |_=>rfl
@[go_sem] theorem azz(b z m k ok K):Ri (some (b,z)) m k ok h K=(DK b k=true/\BJ z m k ok h K):=(rfl)
@[go_sem] theorem azA(z k i ok K):BJ z (.map (some i)) k ok h K=Dm ok z k (h[i]?) K:=(rfl)
@[go_sem] theorem azB(ok z k cB c K):Dm ok z k (some (.map cB c)) K=tA ok z (kr k cB) cB K:=(rfl)
def Rj(ok:Bool)(e:Option (Nat×AV×AV))(K:AV->Prop):Prop:=match e with
 |some e=>K (if ok then .tuple [e.2.2,.bool true]else e.2.2)
 |none=>False
@[go_sem] theorem azC(ok z cB K):tA ok z (some none) cB K=K (if ok then .tuple [z,.bool false]else z):=(rfl)
@[go_sem] theorem azD(ok z j cB K):tA ok z (some (some j)) cB K=Rj ok (cB[j]?) K:=by cases h:cB[j]? <;>simp[tA,Rj,h]
@[go_sem] theorem azE(ok e K):Rj ok (some e) K=K (if ok then .tuple [e.2.2,.bool true]else e.2.2):=(rfl)
def I9(P:Program)(t:TypeId):Option Bool:=match P.underlying t with
 |some (.map kt _)=>(match P.underlying kt with
  |some (.int _)=>some true
  |some .string=>some false
  |_=>none)
 |_=>none
def Cc(r:Option cO)(h:AH)(i:Nat)(K:AH->Prop):Prop:=match r with
 |some ob=>K (h.set i ob)
 |none=>False
def I_(k x:AV)(ob:Option cO)(h:AH)(i:Nat)(K:AH->Prop):Prop:=match ob with
 |some (.map cB clk)=>Cc ((kr k cB).bind (sD cB clk k x)) h i K
 |_=>False
def Ja(d:Option Bool)(m k x:AV)(h:AH)(K:AH->Prop):Prop:=match d,m with
 |some b,.map (some i)=>DK b k=true/\I_ k x (h[i]?) h i K
 |_,_=>False
@[go_sem] theorem azF(t m k ok K):BQ none P t m k ok h K=zW P t m k ok h K:=(rfl)
@[go_sem] theorem azG(t m k x K):vN none P t m k x h K=wS P t m k x h K:=(rfl)
@[go_sem] theorem azH(t m k x K):wS P t m k x h K=Ja (I9 P t) m k x h K:=by
 unfold wS I9;cases P.underlying t with
 |none=>rfl
 |some d=>cases d with
  |map kt et=>
   simp only;cases P.underlying kt with
   |none=>rfl
   |some kd=>
    have key:∀i,(match h[i]? with
     |some (.map cB clk)=>(match(kr k cB).bind (sD cB clk k x)with
      |some ob=>K (h.set i ob)
      |none=>False)
     |_=>False)=I_ k x (h[i]?) h i K:=fun i=>by
     unfold I_ Cc;split<;>rfl
    cases m with
    |map r=>cases r with
     |none=>cases kd<;>simp[Ja]
     |some i=>cases kd<;>simp only[Ja,XW,XX]<;>first|exact congrArg (And _) (key i)|simp[vM]
    |_=>cases kd<;>simp[Ja]
  |_=>rfl
@[go_sem] theorem azI(b i k x K):Ja (some b) (.map (some i)) k x h K=(DK b k=true/\I_ k x (h[i]?) h i K):=(rfl)
@[go_sem] theorem azJ(k x cB c i K):I_ k x (some (.map cB c)) h i K=Cc ((kr k cB).bind (sD cB c k x)) h i K:=(rfl)
@[go_sem] theorem azK(ob i K):Cc (some ob) h i K=K (h.set i ob):=(rfl)
def pU(d:Option (Nat×Nat))(s x:AV)(h:AH)(K:AV->AH->Prop):Prop:=match d,s with
 |some (n,by_),.sl rows own=>∃xs,qi x h xs/\db n rows/\db n xs/\rows.length+xs.length<=9223372036854775807/\(rows.length+xs.length)*by_<=140737488355328/\
    (match own with
     | .free=>xs=[]/\K s h
     | .full=>K (.sl (rows++xs) (.bN h.length)) (h++[.bN (rows.length+xs.length)])
     | .bN i=>(match h[i]? with
      |some (.bN m)=>m=rows.length/\K (.sl (rows++xs) (.bN i)) (h.set i (.bN (rows.length+xs.length)))
      |_=>False))
 |_,_=>False
def XY(P:Program)(t u:TypeId):Option Nat:=match P.underlying t,P.underlying u with
 |some (.slice e),some (.int _)=>(match dA P e,tt P e,jy P e with
  |some 1,some b,some (.int .i64 0)=>some b
  |_,_,_=>none)
 |_,_=>none
theorem ajb{t u b}(hz:XY P t u=some b)(rows m K):nC P t u (.sl rows .full) (.int .i64 m) h K=
  (db 1 rows/\0<=m/\(rows.length+m.toNat)*b<=140737488355328/\rows.length+m.toNat<=140737488355328/\K (.sl (rows++List.replicate m.toNat (.int .i64 0)) .free) h):=by
 unfold XY at hz;split at hz
 .rename_i e k ht hu;split at hz
  .rename_i h1 h2 h3;cases hz;unfold nC;rw[ht,hu];simp only[LZ,ht];grind
  .cases hz
 .cases hz
theorem DL{t u}(hu:xg P u=true)(s x K):nC P t u s x h K=pU (rJ P t) s x h K:=by
 unfold xg at hu;unfold nC rJ;cases hd:P.underlying u with
 |none=>rw[hd]at hu;cases hu
 |some du=>
  rw[hd]at hu;cases ht:P.underlying t with
  |none=>cases du<;>first|rfl|cases hu
  |some d=>
   have key:(match some d,some du with
    |some _,some (.int _)=>LZ P t s x h K
    |some (.slice e),some _=>(match dA P e,tt P e,jy P e,s with
     |some n,some by_,some z,.sl rows own=>n≠0/\z.cells.size=n/\∃xs,qi x h xs/\db n rows/\db n xs/\rows.length+xs.length<=9223372036854775807/\(rows.length+xs.length)*by_<=140737488355328/\
       (match own with
        | .free=>xs=[]/\K s h
        | .full=>K (.sl (rows++xs) (.bN h.length)) (h++[.bN (rows.length+xs.length)])
        | .bN i=>(match h[i]? with
         |some (.bN m)=>m=rows.length/\K (.sl (rows++xs) (.bN i)) (h.set i (.bN (rows.length+xs.length)))
         |_=>False))
     |_,_,_,_=>False)
    |_,_=>False)=pU (match some d with
     |some (.slice e)=>(match dA P e,tt P e,jy P e with
      |some n,some by_,some z=>if n≠0/\z.cells.size=n then some (n,by_)else none
      |_,_,_=>none)
     |_=>none) s x h K:=by
    cases d with
    |slice e=>
     cases du<;>first|exact absurd hu Bool.false_ne_true|skip
     all_goals
      simp only;cases dA P e with
      |none=>rfl
      |some n=>cases tt P e with
       |none=>rfl
       |some b=>cases jy P e with
        |none=>rfl
        |some z=>
         simp only;by_cases hc:n≠0/\z.cells.size=n
         .rw[if_pos hc];cases s<;>first|rfl|(simp only[pU];grind)
         .rw[if_neg hc];cases s<;>first|rfl|(simp only[pU];grind)
    |_=>cases du<;>first|rfl|exact absurd hu Bool.false_ne_true
   exact key
def DM(d:Option (Nat×Nat×List AV×TypeId))(l c:AV)(h:AH)(K:AV->AH->Prop):Prop:=match d,l,c with
 |some (n,by_,z,e),.int _ l,.int _ c=>0<=l/\l<=c/\c<=9223372036854775807/\c*by_<=140737488355328/\K (.ms h.length 0 l.toNat c.toNat n) (h++[.row (kL c.toNat z) e])
 |_,_,_=>False
theorem MR{t}(ht:(lG P t).isSome=true)(l c K):tC P t l c h K=DM (lG P t) l c h K:=by
 unfold lG at ht;unfold tC lG;split at ht
 .rename_i e hd;rw[hd];split at ht
  .rename_i n by_ z h1 h2 h3;split at ht
   .rename_i hc;simp only[h1,h2,h3];rw[if_pos hc];cases l<;>first|rfl|skip
    cases c<;>first|rfl|skip
    simp only[DM];grind
   .cases ht
  .cases ht
 .cases ht
@[go_sem] theorem azL(n by_ z e k k' l c K):
  DM (some (n,by_,z,e)) (.int k l) (.int k' c) h K=(0<=l/\l<=c/\c<=9223372036854775807/\c*by_<=140737488355328/\K (.ms h.length 0 l.toNat c.toNat n) (h++[.row (kL c.toNat z) e])):=(rfl)
def Rk(d:Option (Nat×Nat×List AV×TypeId))(len:Nat)(ps:List (Nat×AV))(h:AH)(K:AV->AH->Prop):Prop:=match d with
 |some (n,_,_,e)=>len*n<=16777216/\ps.map (·.1)=List.range len/\(∀p∈ps,p.2.cells.length=n/\(p.2.one=true\/∃cs,p.2= .agg cs))/\K (.ms h.length 0 len len n) (h++[.row (flat (ps.map (·.2))) e])
 |none=>False
theorem XZ{t}(ht:(lG P t).isSome=true)(len ps K):yC P t len ps h K=Rk (lG P t) len ps h K:=by
 unfold lG at ht;unfold yC lG;split at ht
 .rename_i e hd;rw[hd];split at ht
  .rename_i n by_ z h1 h2 h3;split at ht
   .rename_i hc;simp only[h1,h3];rw[if_pos hc];exact propext ⟨fun h=>h.2.2,fun h=>⟨hc.1,hc.2.1,h⟩⟩
   .cases ht
  .cases ht
 .cases ht
def uH(d:Option (Nat×Nat×List AV×TypeId))(s x:AV)(h:AH)(K:AV->AH->Prop):Prop:=match d with
 |some (n,by_,_,e)=>∃xs,qi x h xs/\db n xs/\
    (match s with
     | .sl [] .full=>xs.length<=9223372036854775807/\xs.length*by_<=140737488355328/\(xs=[]->K s h)/\(xs≠[]->∀c,xs.length<=c->K (.ms h.length 0 xs.length c n) (h++[.row (flat xs++List.replicate ((c-xs.length)*n) .top) e]))
     | .ms i off len cap sz=>sz=n/\len+xs.length<=9223372036854775807/\(len+xs.length)*by_<=140737488355328/\len<=cap/\(match h[i]? with
      |some (.row cs T)=>off+cap*n<=cs.length/\(len+xs.length<=cap->K (.ms i off (len+xs.length) cap n) (h.set i (.row (iU cs (off+len*n) (flat xs)) T)))/\
       (cap<len+xs.length->∀c,len+xs.length<=c->K (.ms h.length 0 (len+xs.length) c n) (h++[.row ((cs.drop off).take (len*n)++flat xs++List.replicate ((c-(len+xs.length))*n) .top) e]))
      |_=>False)
     |_=>False)
 |none=>False
theorem Rm{t u}(hu:xg P u=true)(ht:(lG P t).isSome=true)(s x K):wW P t u s x h K=uH (lG P t) s x h K:=by
 unfold xg at hu;unfold lG at ht;unfold wW lG;split at ht
 .rename_i e hd;rw[hd];split at ht
  .rename_i n by_ z h1 h2 h3;split at ht
   .rename_i hc;split at hu
    .cases hu
    .rename_i d vP X0;rw[X0];simp only[h1,h2,h3];rw[if_pos hc];simp only[uH];cases d<;>first
      |exact propext ⟨fun h=>h.2.2,fun h=>⟨hc.1,hc.2.1,h⟩⟩
      |(exact absurd rfl (vP _))
      |(exact(vP _ rfl).elim)
    .cases hu
   .cases ht
  .cases ht
 .cases ht
def X1(d:Option MB)(x i:AV)(K:AV->Prop):Prop:=match d,x,i with
 |some .str,.str s,.int _ n=>0<=n/\∃b,s[n.toNat]? =some b/\K (.int .u8 b.toNat)
 |_,_,_=>False
@[go_sem] theorem azM(t x i K):Af P t (.str x) i K=X1 (oM P t) (.str x) i K:=by
 unfold Af oM;cases P.underlying t with
 |none=>rfl
 |some d=>cases d<;>cases i<;>rfl
@[go_sem] theorem azN(s k n K):X1 (some .str) (.str s) (.int k n) K=(0<=n/\∃b,s[n.toNat]? =some b/\K (.int .u8 b.toNat)):=(rfl)
def X2(d:Option MB)(op:BinOp)(x:AV)(K:AV->Prop):Prop:=match d,op,x with
 |some .sl,.eql,.sl rows _=>(rows=[]->K (.bool true))/\K (.bool false)
 |some .sl,.neq,.sl rows _=>(rows=[]->K (.bool false))/\K (.bool true)
 |some .sl,.eql,.ms .. =>K (.bool false)
 |some .sl,.neq,.ms .. =>K (.bool true)
 |_,_,_=>False
@[go_sem] theorem azO(t op x K):BN P t op x K=X2 (oM P t) op x K:=by
 unfold BN oM;cases P.underlying t with
 |none=>rfl
 |some d=>cases d<;>cases op<;>first|rfl|(cases x<;>rfl)
theorem X3{rows o K}(h1:rows=[]->K (.bool true))(h2:K (.bool false)):X2 (some .sl) .eql (.sl rows o) K:=⟨h1,h2⟩
end
attribute [go_sem] bne_self_eq_false beq_self_eq_true true_and and_true decide_true decide_false wrap_i64
end Go.aS
namespace Go.Proofs.YtmfjlankeocaoaaGreatDoor.Ty
open Go Go.Proofs Go.aS
theorem mixed:Tryz.prog.follows .mixedOrders=true:=by kernel_rfl
theorem X4:xg Tryz.prog 22=true:=by kernel_rfl
theorem X5:lG Tryz.prog 22=some (1,16,[(.str ⟨#[]⟩)],9):=by kernel_rfl
theorem ajc(l c h K):tC Tryz.prog 22 l c h K=DM (lG Tryz.prog 22) l c h K:=MR (by rw[X5];rfl) l c K
theorem ajd(s x h K):nC Tryz.prog 22 22 s x h K=pU (rJ Tryz.prog 22) s x h K:=DL X4 s x K
theorem Rn:xg Tryz.prog 23=true:=by kernel_rfl
theorem X6:lG Tryz.prog 23=some (8,96,[(.str ⟨#[]⟩),(.int .i64 0),(.int .i64 0),(.int .i64 0),(.int .i64 0),(.int .i64 0),(.str ⟨#[]⟩),(.sl [] .full)],64):=by kernel_rfl
theorem aje(s x h K):wW Tryz.prog 23 23 s x h K=uH (lG Tryz.prog 23) s x h K:=Rm Rn (by rw[X6];rfl) s x K
theorem ajf(s x h K):nC Tryz.prog 23 23 s x h K=pU (rJ Tryz.prog 23) s x h K:=DL Rn s x K
theorem X7:xg Tryz.prog 24=true:=by kernel_rfl
theorem ajg(s x h K):nC Tryz.prog 24 24 s x h K=pU (rJ Tryz.prog 24) s x h K:=DL X7 s x K
theorem X8:jK Tryz.prog 26=some [(0,1),(1,1),(2,1),(3,1),(4,1)]:=by kernel_rfl
theorem ajh(ps K):kq Tryz.prog 26 ps K=pd (jK Tryz.prog 26) (fw Tryz.prog 26) ps K:=uG (by rw[X8];rfl) ps K
theorem X9:jK Tryz.prog 28=some [(0,1),(1,1),(2,1),(3,1),(4,5),(9,1)]:=by kernel_rfl
theorem aji(ps K):kq Tryz.prog 28 ps K=pd (jK Tryz.prog 28) (fw Tryz.prog 28) ps K:=uG (by rw[X9];rfl) ps K
theorem Ro:xg Tryz.prog 30=true:=by kernel_rfl
theorem MS:lG Tryz.prog 30=some (1,8,[(.int .i64 0)],3):=by kernel_rfl
theorem ajj(l c h K):tC Tryz.prog 30 l c h K=DM (lG Tryz.prog 30) l c h K:=MR (by rw[MS];rfl) l c K
theorem ajk(n ps h K):yC Tryz.prog 30 n ps h K=Rk (lG Tryz.prog 30) n ps h K:=XZ (by rw[MS];rfl) n ps K
theorem ajl(s x h K):wW Tryz.prog 30 30 s x h K=uH (lG Tryz.prog 30) s x h K:=Rm Ro (by rw[MS];rfl) s x K
theorem ajm(s x h K):nC Tryz.prog 30 30 s x h K=pU (rJ Tryz.prog 30) s x h K:=DL Ro s x K
theorem ajn(rows m h K):nC Tryz.prog 30 3 (.sl rows .full) (.int .i64 m) h K=(db 1 rows/\0<=m/\(rows.length+m.toNat)*8<=140737488355328/\rows.length+m.toNat<=140737488355328/\K (.sl (rows++List.replicate m.toNat (.int .i64 0)) .free) h):=ajb (by kernel_rfl) rows m K
theorem X_:xg Tryz.prog 47=true:=by kernel_rfl
theorem ajo(s x h K):nC Tryz.prog 47 47 s x h K=pU (rJ Tryz.prog 47) s x h K:=DL X_ s x K
theorem Ya:jK Tryz.prog 49=some [(0,1),(1,1),(2,1)]:=by kernel_rfl
theorem ajp(ps K):kq Tryz.prog 49 ps K=pd (jK Tryz.prog 49) (fw Tryz.prog 49) ps K:=uG (by rw[Ya];rfl) ps K
theorem Rp:xg Tryz.prog 58=true:=by kernel_rfl
theorem Rq:lG Tryz.prog 58=some (1,24,[(.sl [] .full)],30):=by kernel_rfl
theorem ajq(n ps h K):yC Tryz.prog 58 n ps h K=Rk (lG Tryz.prog 58) n ps h K:=XZ (by rw[Rq];rfl) n ps K
theorem ajr(s x h K):wW Tryz.prog 58 58 s x h K=uH (lG Tryz.prog 58) s x h K:=Rm Rp (by rw[Rq];rfl) s x K
theorem ajs(s x h K):nC Tryz.prog 58 58 s x h K=pU (rJ Tryz.prog 58) s x h K:=DL Rp s x K
theorem Yb:xg Tryz.prog 71=true:=by kernel_rfl
theorem ajt(s x h K):nC Tryz.prog 71 71 s x h K=pU (rJ Tryz.prog 71) s x h K:=DL Yb s x K
theorem Yc:jK Tryz.prog 73=some [(0,1)]:=by kernel_rfl
theorem aju(ps K):kq Tryz.prog 73 ps K=pd (jK Tryz.prog 73) (fw Tryz.prog 73) ps K:=uG (by rw[Yc];rfl) ps K
theorem Yd:jK Tryz.prog 85=some [(0,1),(1,1),(2,1)]:=by kernel_rfl
theorem ajv(ps K):kq Tryz.prog 85 ps K=pd (jK Tryz.prog 85) (fw Tryz.prog 85) ps K:=uG (by rw[Yd];rfl) ps K
theorem Ye:jK Tryz.prog 90=some [(0,1),(1,1)]:=by kernel_rfl
theorem ajw(ps K):kq Tryz.prog 90 ps K=pd (jK Tryz.prog 90) (fw Tryz.prog 90) ps K:=uG (by rw[Ye];rfl) ps K
theorem Yf:jK Tryz.prog 98=some [(0,1),(1,1)]:=by kernel_rfl
theorem ajx(ps K):kq Tryz.prog 98 ps K=pd (jK Tryz.prog 98) (fw Tryz.prog 98) ps K:=uG (by rw[Yf];rfl) ps K
theorem Yg:jK Tryz.prog 115=some [(0,1),(1,1),(2,1)]:=by kernel_rfl
theorem ajy(ps K):kq Tryz.prog 115 ps K=pd (jK Tryz.prog 115) (fw Tryz.prog 115) ps K:=uG (by rw[Yg];rfl) ps K
theorem Yh:jK Tryz.prog 126=some [(0,5),(5,1)]:=by kernel_rfl
theorem ajz(ps K):kq Tryz.prog 126 ps K=pd (jK Tryz.prog 126) (fw Tryz.prog 126) ps K:=uG (by rw[Yh];rfl) ps K
theorem Yi:jK Tryz.prog 133=some [(0,1),(1,1),(2,1),(3,1)]:=by kernel_rfl
theorem ajA(ps K):kq Tryz.prog 133 ps K=pd (jK Tryz.prog 133) (fw Tryz.prog 133) ps K:=uG (by rw[Yi];rfl) ps K
theorem Yj:jK Tryz.prog 142=some [(0,1),(1,1),(2,10)]:=by kernel_rfl
theorem ajB(ps K):kq Tryz.prog 142 ps K=pd (jK Tryz.prog 142) (fw Tryz.prog 142) ps K:=uG (by rw[Yj];rfl) ps K
theorem Yk:jK Tryz.prog 153=some [(0,1),(1,1),(2,1)]:=by kernel_rfl
theorem ajC(ps K):kq Tryz.prog 153 ps K=pd (jK Tryz.prog 153) (fw Tryz.prog 153) ps K:=uG (by rw[Yk];rfl) ps K
theorem Yl:jK Tryz.prog 156=some [(0,1)]:=by kernel_rfl
theorem ajD(ps K):kq Tryz.prog 156 ps K=pd (jK Tryz.prog 156) (fw Tryz.prog 156) ps K:=uG (by rw[Yl];rfl) ps K
theorem Ym:lG Tryz.prog 190=some (1,1,[(.bool false)],4):=by kernel_rfl
theorem ajE(l c h K):tC Tryz.prog 190 l c h K=DM (lG Tryz.prog 190) l c h K:=MR (by rw[Ym];rfl) l c K
theorem Yn:lG Tryz.prog 237=some (1,24,[(.sl [] .full)],30):=by kernel_rfl
theorem ajF(l c h K):tC Tryz.prog 237 l c h K=DM (lG Tryz.prog 237) l c h K:=MR (by rw[Yn];rfl) l c K
theorem Yo:tB Tryz.prog 148=some (6,1):=by kernel_rfl
theorem ajG(ps K):kq Tryz.prog 148 ps K=I8 (tB Tryz.prog 148) (fw Tryz.prog 148) ps K:=XR (by rw[Yo];rfl) ps K
theorem Yp:tB Tryz.prog 166=some (5,1):=by kernel_rfl
theorem ajH(ps K):kq Tryz.prog 166 ps K=I8 (tB Tryz.prog 166) (fw Tryz.prog 166) ps K:=XR (by rw[Yp];rfl) ps K
@[go_sem] theorem azP:tag Tryz.prog 1=some none/\dA Tryz.prog 3=some 1/\tag Tryz.prog 3=some none/\fw Tryz.prog 3=some [(.int .i64 0)]/\dA Tryz.prog 4=some 1/\tag Tryz.prog 4=some none/\fw Tryz.prog 4=some [(.bool false)]/\I1 Tryz.prog 4=true/\dA Tryz.prog 9=some 1/\tag Tryz.prog 9=some none/\FQ Tryz.prog 9=some none/\oM Tryz.prog 9=some .str/\tag Tryz.prog 20=some none/\MK Tryz.prog 20=true/\dA Tryz.prog 22=some 1/\tag Tryz.prog 22=some none/\pT Tryz.prog 22=some (none,1)/\rJ Tryz.prog 22=some (1,16)/\xh Tryz.prog 22=some 1/\oM Tryz.prog 22=some .sl/\dA Tryz.prog 23=some 1/\tag Tryz.prog 23=some none/\pT Tryz.prog 23=some (none,8)/\rJ Tryz.prog 23=some (8,96)/\xh Tryz.prog 23=some 8/\oM Tryz.prog 23=some .sl/\dA Tryz.prog 24=some 1/\tag Tryz.prog 24=some none/\fw Tryz.prog 24=some [(.sl [] .full)]/\pT Tryz.prog 24=some (none,5):=by(repeat' apply And.intro)<;>kernel_rfl
@[go_sem] theorem azQ:rJ Tryz.prog 24=some (5,64)/\xh Tryz.prog 24=some 5/\oM Tryz.prog 24=some .sl/\dA Tryz.prog 26=some 5/\tag Tryz.prog 26=some (some 5)/\fw Tryz.prog 26=some [(.int .i64 0),(.int .i64 0),(.int .i64 0),(.str ⟨#[]⟩),(.sl [] .full)]/\gA Tryz.prog 26 0=some 0/\gA Tryz.prog 26 1=some 1/\gA Tryz.prog 26 2=some 2/\gA Tryz.prog 26 3=some 3/\gA Tryz.prog 26 4=some 4/\dA Tryz.prog 28=some 10/\tag Tryz.prog 28=some (some 10)/\fw Tryz.prog 28=some [(.str ⟨#[]⟩),(.sl [] .full),(.sl [] .full),(.sl [] .full),(.int .i64 0),(.int .i64 0),(.int .i64 0),(.str ⟨#[]⟩),(.sl [] .full),(.int .i64 0)]/\gA Tryz.prog 28 0=some 0/\gA Tryz.prog 28 1=some 1/\gA Tryz.prog 28 2=some 2/\gA Tryz.prog 28 3=some 3/\gA Tryz.prog 28 4=some 4/\gA Tryz.prog 28 5=some 9/\tag Tryz.prog 29=some none/\pT Tryz.prog 29=some (none,1)/\oM Tryz.prog 29=some .sl/\dA Tryz.prog 30=some 1/\tag Tryz.prog 30=some none/\fw Tryz.prog 30=some [(.sl [] .full)]/\pT Tryz.prog 30=some (none,1)/\FQ Tryz.prog 30=some (some 1)/\rJ Tryz.prog 30=some (1,8)/\xh Tryz.prog 30=some 1:=by(repeat' apply And.intro)<;>kernel_rfl
@[go_sem] theorem azR:oM Tryz.prog 30=some .sl/\dA Tryz.prog 31=some 1/\tag Tryz.prog 31=some none/\fw Tryz.prog 31=some [(.int .i64 0)]/\tD Tryz.prog 31=true/\wY Tryz.prog 31=some (.int .i64 0)/\dA Tryz.prog 47=some 1/\tag Tryz.prog 47=some none/\pT Tryz.prog 47=some (none,3)/\rJ Tryz.prog 47=some (3,40)/\xh Tryz.prog 47=some 3/\oM Tryz.prog 47=some .sl/\dA Tryz.prog 49=some 3/\tag Tryz.prog 49=some (some 3)/\fw Tryz.prog 49=some [(.int .i64 0),(.int .i64 0),(.sl [] .full)]/\gA Tryz.prog 49 0=some 0/\gA Tryz.prog 49 1=some 1/\gA Tryz.prog 49 2=some 2/\dA Tryz.prog 58=some 1/\tag Tryz.prog 58=some none/\fw Tryz.prog 58=some [(.sl [] .full)]/\pT Tryz.prog 58=some (none,1)/\rJ Tryz.prog 58=some (1,24)/\xh Tryz.prog 58=some 1/\oM Tryz.prog 58=some .sl/\dA Tryz.prog 64=some 8/\tag Tryz.prog 64=some (some 8)/\fw Tryz.prog 64=some [(.str ⟨#[]⟩),(.int .i64 0),(.int .i64 0),(.int .i64 0),(.int .i64 0),(.int .i64 0),(.str ⟨#[]⟩),(.sl [] .full)]/\gA Tryz.prog 64 0=some 0/\gA Tryz.prog 64 1=some 1:=by(repeat' apply And.intro)<;>kernel_rfl
@[go_sem] theorem azS:gA Tryz.prog 64 2=some 2/\gA Tryz.prog 64 3=some 3/\tag Tryz.prog 67=some none/\pT Tryz.prog 67=some (none,2)/\oM Tryz.prog 67=some .sl/\dA Tryz.prog 69=some 2/\tag Tryz.prog 69=some (some 2)/\fw Tryz.prog 69=some [(.int .i64 0),(.int .i64 0)]/\gA Tryz.prog 69 0=some 0/\gA Tryz.prog 69 1=some 1/\dA Tryz.prog 71=some 1/\tag Tryz.prog 71=some none/\fw Tryz.prog 71=some [(.sl [] .full)]/\pT Tryz.prog 71=some (none,4)/\FQ Tryz.prog 71=some (some 4)/\rJ Tryz.prog 71=some (4,40)/\xh Tryz.prog 71=some 4/\oM Tryz.prog 71=some .sl/\fw Tryz.prog 73=some [(.sl [] .full)]/\gA Tryz.prog 73 0=some 0/\tag Tryz.prog 85=some (some 3)/\fw Tryz.prog 85=some [(.int .i64 0),(.sl [] .full),(.sl [] .full)]/\gA Tryz.prog 85 0=some 0/\gA Tryz.prog 85 1=some 1/\gA Tryz.prog 85 2=some 2/\tag Tryz.prog 86=some none/\dA Tryz.prog 90=some 2/\tag Tryz.prog 90=some (some 2)/\fw Tryz.prog 90=some [(.sl [] .full),(.sl [] .full)]/\gA Tryz.prog 90 0=some 0:=by(repeat' apply And.intro)<;>kernel_rfl
@[go_sem] theorem azT:gA Tryz.prog 90 1=some 1/\tag Tryz.prog 98=some (some 2)/\fw Tryz.prog 98=some [(.int .i64 0),(.sl [] .full)]/\gA Tryz.prog 98 0=some 0/\gA Tryz.prog 98 1=some 1/\tag Tryz.prog 112=some none/\tag Tryz.prog 113=some none/\dA Tryz.prog 115=some 3/\tag Tryz.prog 115=some (some 3)/\fw Tryz.prog 115=some [(.sl [] .full),(.int .u64 0),.nilFunc]/\gA Tryz.prog 115 0=some 0/\gA Tryz.prog 115 1=some 1/\gA Tryz.prog 115 2=some 2/\dA Tryz.prog 126=some 6/\tag Tryz.prog 126=some (some 6)/\fw Tryz.prog 126=some [(.int .i64 0),(.int .i64 0),(.int .i64 0),(.str ⟨#[]⟩),(.sl [] .full),(.int .i64 0)]/\gA Tryz.prog 126 0=some 0/\gA Tryz.prog 126 1=some 5/\dA Tryz.prog 133=some 4/\tag Tryz.prog 133=some (some 4)/\fw Tryz.prog 133=some [(.int .i64 0),(.str ⟨#[]⟩),(.int .i64 0),(.int .i64 0)]/\gA Tryz.prog 133 0=some 0/\gA Tryz.prog 133 1=some 1/\gA Tryz.prog 133 2=some 2/\gA Tryz.prog 133 3=some 3/\tag Tryz.prog 140=some none/\fw Tryz.prog 142=some [(.sl [] .full),(.int .i64 0),(.str ⟨#[]⟩),(.sl [] .full),(.sl [] .full),(.sl [] .full),(.int .i64 0),(.int .i64 0),(.int .i64 0),(.str ⟨#[]⟩),(.sl [] .full),(.int .i64 0)]/\gA Tryz.prog 142 0=some 0/\gA Tryz.prog 142 2=some 2/\pT Tryz.prog 143=some (none,1):=by(repeat' apply And.intro)<;>kernel_rfl
@[go_sem] theorem azU:xh Tryz.prog 143=some 1/\oM Tryz.prog 143=some .sl/\tag Tryz.prog 147=some none/\dA Tryz.prog 148=some 6/\fw Tryz.prog 148=some [.nilFunc,.nilFunc,.nilFunc,.nilFunc,.nilFunc,.nilFunc]/\pT Tryz.prog 148=some (some 6,1)/\fw Tryz.prog 150=some [.nilFunc,.nilFunc,.nilFunc,.nilFunc,.nilFunc,.nilFunc]/\gA Tryz.prog 150 0=some 0/\fw Tryz.prog 153=some [(.str ⟨#[]⟩),(.int .i64 0),(.sl [] .full)]/\gA Tryz.prog 153 0=some 0/\gA Tryz.prog 153 1=some 1/\gA Tryz.prog 153 2=some 2/\dA Tryz.prog 156=some 1/\fw Tryz.prog 156=some [(.int .i64 0)]/\gA Tryz.prog 156 0=some 0/\tD Tryz.prog 156=true/\wY Tryz.prog 156=some (.agg [(.int .i64 0)])/\pT Tryz.prog 164=some (some 5,1)/\tag Tryz.prog 165=some none/\dA Tryz.prog 166=some 5/\fw Tryz.prog 166=some [.nilFunc,.nilFunc,.nilFunc,.nilFunc,.nilFunc]/\pT Tryz.prog 166=some (some 5,1)/\tag Tryz.prog 169=some none/\I0 Tryz.prog 169=some (true,(.int .i64 0))/\dA Tryz.prog 171=some 1/\tag Tryz.prog 171=some none/\fw Tryz.prog 171=some [.nilFunc]/\I0 Tryz.prog 180=some (true,.nilFunc)/\dA Tryz.prog 188=some 1/\tag Tryz.prog 188=some none:=by(repeat' apply And.intro)<;>kernel_rfl
@[go_sem] theorem azV:fw Tryz.prog 188=some [.nilFunc]/\dA Tryz.prog 190=some 1/\tag Tryz.prog 190=some none/\fw Tryz.prog 190=some [(.sl [] .full)]/\pT Tryz.prog 190=some (none,1)/\oM Tryz.prog 190=some .sl/\dA Tryz.prog 197=some 1/\tag Tryz.prog 197=some none/\fw Tryz.prog 197=some [(.map none)]/\I0 Tryz.prog 197=some (true,(.bool false))/\tag Tryz.prog 198=some none/\pT Tryz.prog 201=some (none,1)/\xh Tryz.prog 201=some 1/\oM Tryz.prog 201=some .sl/\MK Tryz.prog 209=true/\dA Tryz.prog 227=some 1/\tag Tryz.prog 227=some none/\fw Tryz.prog 227=some [.nilFunc]/\tag Tryz.prog 237=some none/\pT Tryz.prog 237=some (none,1)/\FQ Tryz.prog 237=some (some 1)/\oM Tryz.prog 237=some .sl/\dA Tryz.prog 245=some 1/\tag Tryz.prog 245=some none/\fw Tryz.prog 245=some [.nilFunc]/\dA Tryz.prog 246=some 1/\tag Tryz.prog 246=some none/\fw Tryz.prog 246=some [.nilFunc]/\I9 Tryz.prog 169=some true/\I9 Tryz.prog 180=some true:=by(repeat' apply And.intro)<;>kernel_rfl
@[go_sem] theorem azW:I9 Tryz.prog 197=some true/\uz Tryz.prog 169=none/\uz Tryz.prog 180=none/\uz Tryz.prog 197=none/\DE Tryz.prog 3 111=some (some .u64)/\DE Tryz.prog 3 112=some (some .u64)/\DE Tryz.prog 5 3=some (some .i64)/\DE Tryz.prog 111 3=some (some .i64)/\DE Tryz.prog 278 5=some (some .u8):=by(repeat' apply And.intro)<;>kernel_rfl
attribute [go_sem] X4 X5 ajc ajd Rn X6 aje ajf X7 ajg X8 ajh X9 aji Ro MS ajj ajk ajl ajm ajn X_ ajo Ya ajp Rp Rq ajq ajr ajs Yb ajt Yc aju Yd ajv Ye ajw Yf ajx Yg ajy Yh ajz Yi ajA Yj ajB Yk ajC Yl ajD Ym ajE Yn ajF Yo ajG Yp ajH
end Go.Proofs.YtmfjlankeocaoaaGreatDoor.Ty
namespace Go.aS
open Go Go.RowKit
def qv:List Tmp->List AV->Tm->Tm
 |p::ps,a::cD,σ=>qv ps cD ((p,a)::σ)
 |_,_,σ=>σ
def Cd(L:Nat)(li:LI)(R:AV->AH->Prop):Exit->Tm->AH->Prop
 | .normal,_,h=>h[L]? =some (.loop .busy none li)/\R (.bool true) (h.set L (.loop .ready none li))
 | .ret,_,h=>h[L]? =some (.loop .busy none li)/\R (.bool false) (h.set L (.loop .done (some .ret) li))
 | .exit id,_,h=>h[L]? =some (.loop .busy none li)/\R (.bool false) (h.set L (.loop .done (some (.exit id)) li))
 | .goto t,_,h=>h[L]? =some (.loop .busy none li)/\R (.bool false) (h.set L (.loop .done (some (.goto t)) li))
 |_,_,_=>False
section
variable {P:Program} {Γ:GG} {G:Gh} {h:AH} {w:World} {N:Nat} {σ:Tm} {Q:Exit->Tm->AH->Prop}
theorem TR.qv:∀(ps:List Tmp) (cD:List AV) (vs:List Value) (σ:Tm) (t:Array Value),ps.length=cD.length->cD.length=vs.length->(∀p∈ps,p<N)->
  (∀(j:Nat) (c:AV) (v:Value),cD[j]? =some c->vs[j]? =some v->VR G c v)->TR N G σ t->TR N G (aS.qv ps cD σ) ((ps.zip vs).foldl (fun t p=>t.setIfInBounds p.1 p.2) t)
 |[],cD,vs,σ,t,_,_,_,_,ht=>by cases cD<;>exact ht
 |p::ps,[],vs,σ,t,h1,_,_,_,_=>by simp at h1
 |p::ps,a::cD,[],σ,t,_,h2,_,_,_=>by simp at h2
 |p::ps,a::cD,v::vs,σ,t,h1,h2,hN,hv,ht=>by simp only[List.zip_cons_cons,List.foldl_cons,aS.qv];refine TR.qv ps cD vs _ _ (by simpa using h1) (by simpa using h2) (fun q hq=>hN q (List.mem_cons_of_mem _ hq)) (fun j c u e e'=>hv (j+1) c u (by simpa using e) (by simpa using e')) ?_;have:=TR.put (a:={tmps:=t,defers:=[]}) ht (d:=some p) (fun x e=>by simp_all) (hv 0 a v rfl rfl);exact this
theorem putObj_size{b o}:(w.putObj b o).heap.size=w.heap.size:=by simp[World.putObj]
theorem Jb{b o}(hb:b<w.heap.size):(w.putObj b o).heap[b]? =some o:=by simp[World.putObj,hb]
theorem Inv.MT(hI:Inv Γ G h w){L st st' pe pe' li}(hL:h[L]? =some (.loop st pe li)){b}(hb:G.ρ L=some b){l}(hl:w.heap[b]? =some (.loop l)):
  Inv Γ G (h.set L (.loop st' pe' li)) (w.putObj b (.loop {l with state:=st',pending:=pe'})):=by
 obtain⟨b',l',k1,k2,k3,k4,k5,k6,k7,k8,k9,FU⟩:=hI.obj L _ hL;rw[hb]at k1;cases k1;rw[hl]at k2;cases k2;have lb:=Jb (w:=w) (o:= .loop {l with state:=st',pending:=pe'}) (uj hl);refine hI.write hb putObj_size rfl rfl rfl (fun k hk=>World.putObj_heap_other hk) _ ⟨b,_,hb,lb,rfl,rfl,k5,k6,k7,k8,k9,FU⟩ (fun D hD=>?_) (by rw[hl];simp) (by rw[hL];simp);grind
theorem Yq{L li args R}(hL:h[L]? =some (.loop .ready none li))(hN:∀p∈li.params.toList,p<li.N)(hlen:li.params.toList.length=args.length)
  (H:bw P Γ li.N li.assign (iP (fun σ' h'=>h'[L]? =some (.loop .ready none li)/\bw P Γ li.N li.body (Cd L li R) σ' (h'.set L (.loop .busy none li))) fun _ _ _=>False) (aS.qv li.params.toList args li.σ) h):
  rD P Γ L args h R:=fun G w vs b hI hv hb=>by
 obtain⟨b',l,k1,k2,k3,k4,k5,k6,k7,k8,k9,FU⟩:=hI.obj L _ hL;rw[hb]at k1;cases k1;have cj:vs.size=l.params.size:=by rw[k5,<-hv.1,<-hlen];simp
 refine⟨l.fn,_,l.assign,l.body,run_yield k2 cj,fun r=>roundIn_of_wpIn trivial ?_⟩;have oh:∀l',some b=some l'->∃D,G.bJ l'=some D:=fun l' e=>by cases e;exact⟨_,k9⟩
 have ht:TR li.N G (aS.qv li.params.toList args li.σ) ((l.params.zip vs).foldl (fun tmps (p:Tmp×Value)=>tmps.setIfInBounds p.1 p.2) l.tmps):=by
  have:=TR.qv (N:=li.N) (G:=G) li.params.toList args vs.toList li.σ l.tmps hlen (by have:=hv.1;simpa using this) hN (fun j c v e e'=>by obtain⟨u,e1,e2⟩:=hv.get e;grind) k8
  rw[k5,<-Array.foldl_toList,Array.toList_zip];exact this
 rw[k6,k7];refine wpIn_mono (H (some b) G w {tmps:=_,defers:=[]} oh hI ht) fun e a1 w1 hp=>?_;obtain⟨G1,uD,h1,Ds,e1,e2,e3,e4,e5,e6,e7⟩:=hp;cases e with
 |normal=>
  obtain⟨tN,Jc⟩:=e7;have fI:=e1.ρ L b hb;obtain⟨b',l1,m1,m2,m3,m4,m5,m6,m7,m8,m9,m10⟩:=e2.obj L _ tN;rw[fI]at m1;cases m1;refine⟨_,run_beginRound m2 m3,?_⟩;have Ad:=e2.MT (st':= .busy) (pe':=l1.pending) tN fI m2;rw[m4]at Ad;refine wpIn_mono (Jc (some b) G1 _ a1 (fun l' e=>by cases e;exact⟨_,m9⟩) (by have:=Ad;simpa [m4]using this) e3) fun e a2 w2 uJ=>?_;obtain⟨G2,As,h2,Yr,f1,f2,f3,f4,f5,f6,f7⟩:=uJ;have fin:∀(jump:Option Code),h2[L]? =some (.loop .busy none li)->R (.bool jump.isNone) (h2.set L (.loop (if jump.isNone then .ready else .done) jump li))->
    ∃v w',(Instr.endRound b jump).run P w2= .ok v w'/\og Γ G R (.returned v) w':=fun jump oq hR=>by
   have jH:=f1.ρ L b fI;obtain⟨b',l2,n1,n2,_⟩:=f2.obj L _ oq;rw[jH]at n1;cases n1;exact⟨_,_,run_endRound jump n2,_,G2,.bool jump.isNone,_,rfl,e1.trans f1,f2.MT oq jH n2,.bool _,hR⟩
  cases e with
  |normal=>exact fin none f7.1 f7.2
  |ret=>exact fin (some .ret) f7.1 f7.2
  |exit id=>exact fin (some (.exit id)) f7.1 f7.2
  |goto t=>exact fin (some (.goto t)) f7.1 f7.2
  |panic c=>exact f7.elim
  |outgrown=>exact f7.elim
 |_=>exact e7.elim
theorem Inv.DN(hI:Inv Γ G h w)(Jd Je)
  (h1:∀(i) (st) (pe) (li) (b) (l),h[i]? =some (.loop st pe li)->G.ρ i=some b->w.heap[b]? =some (.loop l)->G.bJ b=some l.defers->Jd b=some l.defers)
  (h2:∀b D,Jd b=some D->(∃l,w.heap[b]? =some (.loop l)/\l.defers=D/\Je D)/\G.w0.heap.size<=b)
  (h3:∀D,Je D->w.heap[D]? =some (.deferred (some []))/\G.w0.heap.size<=D):Inv Γ {G with bJ:=Jd,ds:=Je} h w:=by
 generalize jd:({G with bJ:=Jd,ds:=Je}:Gh)=G';have hF:G'.F=G.F:=by subst jd;rfl
 have dI:G'.ρ=G.ρ:=by subst jd;rfl
 have dU:G'.ar=G.ar:=by subst jd;rfl
 have oh:G'.bJ=Jd:=by subst jd;rfl
 have tF:G'.ds=Je:=by subst jd;rfl
 have o6:G'.w0=G.w0:=by subst jd;rfl
 have xa:∀{a:AV} {v:Value},VR G a v->VR G' a v:=fun hv=>hv.same dI hF dU;exact {
  below:=by rw[o6];exact hI.below
  k_:=by rw[o6];exact hI.k_
  kJ:=by rw[o6];exact hI.kJ
  fix:=by rw[hF];exact hI.fix
  obj:=fun i ob e=>by
   have ho:=hI.obj i ob e;cases ob with
   |row cs T=>obtain⟨b,vals,k1,k2,hv⟩:=ho;exact⟨b,vals,by rw[dI];exact k1,k2,hv.1,fun j c e=>xa (hv.2 j c e)⟩
   |map cB clk=>
    obtain⟨b,es,k1,k2,hl,hv⟩:=ho;exact⟨b,es,by rw[dI];exact k1,k2,hl,fun j e x he hx=>⟨(hv j e x he hx).1,xa (hv j e x he hx).2.1,xa (hv j e x he hx).2.2⟩⟩
   |iter m clk seen=>
    obtain⟨b,mb,k1,k2,k3⟩:=ho;refine⟨b,mb,by rw[dI];exact k1,k2,?_⟩;grind
   |Fg s pos=>obtain⟨b,k1,k2⟩:=ho;exact⟨b,by rw[dI];exact k1,k2⟩
   |bN n=>obtain⟨r,k1,k2⟩:=ho;exact⟨r,by rw[dU];exact k1,k2⟩
   |loop st C9 li=>
    obtain⟨b,lp,k1,k2,k3,k4,k5,k6,k7,k8,k9,FU⟩:=ho;exact⟨b,lp,by rw[dI];exact k1,k2,k3,k4,k5,k6,k7,⟨k8.1,fun i=>xa (k8.2 i)⟩,by grind,FU⟩
   |dead=>trivial
   |hole=>exact⟨by rw[dI];exact ho.1,by rw[dU];exact ho.2⟩
   |frozen=>trivial
  ij:=by rw[dI];exact hI.ij
  jv:=by rw[dU];exact hI.jv
  inj:=by rw[dI];exact hI.inj
  base:=by rw[dI,o6];exact hI.base
  sep:=by rw[dI,hF];exact hI.sep
  jw:=fun i r b c sz T e e'=>by rw[dU]at e;exact(hI.jw i r b c sz T e e').mono o6 rfl (fun o v h=>by rwa [hF]at h) (fun j h=>by rwa [dI]at h)
  kb:=by rw[dU];exact hI.kb
  lp:=fun b D e=>by simp_all
  jx:=fun b D e=>by simp_all
  gu:=fun D e=>by simp_all
  kn:=fun g cs e=>xa (hI.kn g cs e)}
theorem Inv.qw(hI:Inv Γ G h w){b}(hb:w.heap.size<=b):G.bJ b=none:=by
 cases e:G.bJ b with
 |none=>rfl
 |some D=>obtain⟨l,k,_⟩:=hI.lp b D e;have:=uj k;omega
theorem Inv.vY(hI:Inv Γ G h w){D}(hD:w.heap.size<=D):¬G.ds D:=fun e=>by have:=uj (hI.gu D e).1;omega
def Gh.loop(G:Gh)(i b D:Nat):Gh:={G.add i b with bJ:=fun x=>if x=b then some D else G.bJ x}
theorem Inv.Ce(hI:Inv Γ G h w)(rc)(hD:G.ds rc.defers)(fC:rc.state= .ready)(hpe:rc.pending=none){li}(h1:rc.params=li.params)(h2:rc.assign=li.assign)(h3:rc.body=li.body)(ht:TR li.N G li.σ rc.tmps)(sy:∀f,li.fn=some f->rc.fn=f):
  Inv Γ (G.loop h.length w.heap.size rc.defers) (h++[.loop .ready none li]) (w.alloc (.loop rc)):=by
 have hA:=hI.alloc (.loop rc) .dead trivial;have lb:(w.alloc (.loop rc)).heap[w.heap.size]? =some (.loop rc):=heap_alloc_new w _;have hB:=hA.DN (fun x=>if x=w.heap.size then some rc.defers else G.bJ x) G.ds (fun i st pe li b l e dI hl oh=>by
   have:b≠w.heap.size:=fun e'=>by subst e';have:G.bJ w.heap.size=some l.defers:=oh;rw[hI.qw (Nat.le_refl _)]at this;cases this
   rw[if_neg this];exact oh)
  (fun b D e=>by
   split at e
   .rename_i hb;subst hb;cases e;exact⟨⟨rc,lb,rfl,hD⟩,hI.below.size⟩
   .exact⟨by obtain⟨l,k1,k2,k3⟩:=hA.lp b D e;exact⟨l,k1,k2,k3⟩,hA.jx b D e⟩)
  hA.gu
 have dI:(G.loop h.length w.heap.size rc.defers).ρ h.length=some w.heap.size:=Gh.add_same _ _ _;have hC:=hB.write (G:=G.loop h.length w.heap.size rc.defers) (w':=w.alloc (.loop rc)) dI rfl rfl rfl rfl (fun _ _=>rfl) (.loop .ready none li) ⟨w.heap.size,rc,dI,lb,fC,hpe,h1,h2,h3,⟨ht.1,fun i=>?_⟩,by simp[Gh.loop],sy⟩
  (fun D FK=>⟨rc,lb,by simp[Gh.loop]at FK;exact FK⟩) (by rw[lb];simp) (by simp)
 .simpa using hC
 .refine VR.same (G:=G.add h.length w.heap.size) ?_ ?_ ?_ ((ht.2 i).mono (hI.uk w.heap.size))<;>rfl
theorem Inv.MU(hI:Inv Γ G h w):Inv Γ {G with ds:=fun x=>G.ds x\/x=w.heap.size} h (w.alloc (.deferred (some []))):=
 (hI.Db (.deferred (some []))).DN G.bJ (fun x=>G.ds x\/x=w.heap.size) (fun _ _ _ _ _ _ _ _ _ h=>h)
  (fun b D e=>by obtain⟨l,k1,k2,k3⟩:=(hI.Db (.deferred (some []))).lp b D e;exact⟨⟨l,k1,k2,.inl k3⟩,hI.jx b D e⟩)
  (fun D e=>by
   rcases e with e|rfl
   .exact(hI.Db (.deferred (some []))).gu D e
   .exact⟨heap_alloc_new w _,hI.below.size⟩)
def lJ(h h2:AH):Prop:=h2.length=h.length/\∀(i:Nat) (ob:cO),h2[i]? =some ob->h[i]? =some ob\/(Mh h.length ob/\∀st pe li,ob≠ .loop st pe li)
theorem lJ.refl(h):lJ h h:=⟨rfl,fun _ _ e=> .inl e⟩
def uK(P:Program)(Γ:GG)(N:Nat)(Q:Exit->Tm->AH->Prop)(σ:Tm)(h:AH):Option Code->Prop
 |none=>Q .normal σ h
 |some c=>bw P Γ N c Q σ h
theorem ajJ{g ps assign body gf first iQ}(hg:ev Γ σ g= .func gf first iQ)
  (H:az P Γ gf (first++[.yield h.length]++iQ) (h++[.loop .ready none ⟨N,σ,ps,assign,body,none⟩]) fun _ h'=>∃h2 st pe l,h'=h2++ .loop st pe ⟨N,σ,ps,assign,body,none⟩::l/\lJ h h2/\st≠ .busy/\uK P Γ N Q σ h2 pe):
  bw P Γ N (.rangeFunc g ps assign body) Q σ h:=fun r G w a hr hI ht=>by
 have sM:=oH hI ht g;rw[hg]at sM;generalize qm:a.eval g=vf at sM;cases sM with
 |func f1 f2 f3 f4=>
 rename_i mj ml;obtain⟨np,qn⟩:=H;refine wpIn_rangeFunc fun fn _=>?_;obtain⟨D,marks,w1,b,G1,jf,vZ,hle,⟨fI,jH,qq⟩,hmarks⟩:∃(D:Nat) (marks:List Nat) (w1:World) (b:Nat) (G1:Gh),
   (Instr.enterLoop fn a.tmps ps assign body r).run P w= .ok (b,marks.map mark) w1/\
   Inv Γ G1 (h++[.loop .ready none ⟨N,σ,ps,assign,body,none⟩]) w1/\G.le G1/\(G1.ρ h.length=some b/\G1.bJ b=some D/\G.bJ b=none)/\
   ((marks=[]/\∃x,G.bJ x=some D)\/(marks=[D]/\¬G.ds D/\∀x,G1.bJ x=some D->x=b)):=by
  have xm:∀(G0:Gh) (b D:Nat),G0.ρ=G.ρ->G0.F=G.F->G0.ar=G.ar->G0.w0=G.w0->G0.bJ=G.bJ->(∀x,G.ds x->G0.ds x)->G.bJ b=none->((∃x,G.bJ x=some D)\/¬G.ds D)->G.le (G0.loop h.length b D):=
   fun G0 b D e1 e2 e3 e4 e5 e6 e7 e8=>⟨e4,fun i c e=>by
     have:=hI.ij i c e;simp only[Gh.loop,Gh.add,e1];rw[if_neg (by omega)];exact e,fun b o v e=>by simp only[Gh.loop,Gh.add,e2];exact e,fun i r e=>⟨r,by simp only[Gh.loop,Gh.add,e3];exact e,Nat.le_refl _,fun _=>rfl⟩,fun x D' e=>by
     simp only[Gh.loop,e5];grind,e6,fun x D' e ed=>by
     simp only[Gh.loop,e5]at e;grind⟩
  cases r with
  |none=>
   have h1:=hI.MU;have h2:=h1.Ce {state:= .ready,pending:=none,fn:=fn,tmps:=a.tmps,params:=ps,assign:=assign,body:=body,defers:=w.heap.size} (.inr rfl) rfl rfl (li:=⟨N,σ,ps,assign,body,none⟩) rfl rfl rfl
    ⟨ht.1,fun i=>by refine VR.same (G:=G) ?_ ?_ ?_ (ht.2 i)<;>rfl⟩ (fun f e=>by cases e)
   simp only[World.size_alloc]at h2;refine⟨w.heap.size,[w.heap.size],_,w.heap.size+1,_,run_enterLoop_outer fn a.tmps ps assign body,h2,?_,⟨Gh.add_same _ _ _,by simp[Gh.loop],hI.qw (by omega)⟩,.inr ⟨rfl,hI.vY (Nat.le_refl _),fun x hx=>?_⟩⟩
   .exact xm _ _ _ rfl rfl rfl rfl rfl (fun _ h=> .inl h) (hI.qw (by omega)) (.inr (hI.vY (Nat.le_refl _)))
   .simp only[Gh.loop]at hx;split at hx
    .assumption
    .obtain⟨l,_,_,k⟩:=hI.lp x _ hx;exact absurd k (hI.vY (Nat.le_refl _))
  |some l0=>
   obtain⟨D,hD⟩:=hr l0 rfl;obtain⟨r0,k1,k2,k3⟩:=hI.lp l0 D hD;have h2:=hI.Ce {state:= .ready,pending:=none,fn:=fn,tmps:=a.tmps,params:=ps,assign:=assign,body:=body,defers:=r0.defers} (by rw[k2];exact k3) rfl rfl (li:=⟨N,σ,ps,assign,body,none⟩) rfl rfl rfl ht (fun f e=>by cases e);refine⟨r0.defers,[],_,w.heap.size,_,run_enterLoop_inner k1 fn a.tmps ps assign body,h2,?_,⟨Gh.add_same _ _ _,by simp[Gh.loop],hI.qw (Nat.le_refl _)⟩,.inl ⟨rfl,l0,by rw[k2];exact hD⟩⟩;exact xm _ _ _ rfl rfl rfl rfl rfl (fun _ h=>h) (hI.qw (Nat.le_refl _)) (.inl ⟨l0,by rw[k2];exact hD⟩)
 have ql:b9 G1 (first++[.yield h.length]++iQ) ((mj++ #[.func (.yield b) #[] #[]])++ml):=
  b9.append (b9.append ((show b9 G first mj from⟨f1,f3⟩).mono hle) (b9.one (VR.yield fI))) ((show b9 G iQ ml from⟨f2,f4⟩).mono hle)
 refine⟨b,marks.map mark,w1,{target:= .fn (.func gf) ml,args:=mj++ #[.func (.yield b) #[] #[]]},w1,gf,(mj++ #[.func (.yield b) #[] #[]])++ml,w1,jf,?_,fun _ _=>trivial,?_,fun e=>by simp[Fr]at e,?_⟩
 .simp only[resolve,qm];simp[Deferred.ofValue,Act.eval]
 .simp[invoke,np]
 refine CallsIn.mono (w7.2 (qn G1 w1 _ vZ ql)) fun e w3 oN=>?_;obtain⟨v,G2,av,h',rfl,k1,k2,_,h2,st,pe,l,rfl,⟨hlen,yP⟩,fC,xq⟩:=oN;have hL:(h2++ .loop st pe ⟨N,σ,ps,assign,body,none⟩::l)[h.length]? =some (.loop st pe ⟨N,σ,ps,assign,body,none⟩):=by rw[<-hlen];simp
 obtain⟨b',l3,m1,m2,m3,m4,m5,m6,m7,m8,m9,m10⟩:=k2.obj h.length _ hL;have xr:=k1.ρ _ _ fI;rw[xr]at m1;cases m1;refine⟨l3.pending,_,run_endLoop m2 (by rw[m3];exact fC),?_⟩;have lb:=Jb (w:=w3) (o:= .loop {l3 with state:= .exhausted}) (uj m2);have hA:=k2.write (w':=w3.putObj b (.loop {l3 with state:= .exhausted})) xr putObj_size rfl rfl rfl (fun k hk=>World.putObj_heap_other hk) .dead trivial (fun D0 Rr=>by grind) (by rw[m2];simp) (by rw[hL];simp);rw[<-hlen,List.set_append_right _ _ (Nat.le_refl _),Nat.sub_self,List.set_cons_zero]at hA;have hB:=hA.drop (fun i ob e=>by
  rw[hlen];rcases yP i ob e with e|⟨e,_⟩
  .exact hI.IE e
  .exact e) (by rw[hlen];exact hI.IG)
 have gM:=hle.trans k1;have xu:G.le (G2.cut h2.length):=Gh.IF gM (by rw[hlen];exact hI.sF);obtain⟨del,Rs,xv,DO⟩:∃del:Nat->Prop,del b/\(∀x,(G.bJ x).isSome=true->¬del x)/\∀D0∈marks,¬G.ds D0/\G2.ds D0/\∀x,G2.bJ x=some D0->del x:=by
  have tF:G2.ds D:=by obtain⟨_,_,_,k⟩:=vZ.lp b D jH;exact k1.ds D k
  rcases hmarks with⟨rfl,_⟩|⟨rfl,n1,n2⟩
  .refine⟨fun x=>x=b,rfl,fun x hx e=>?_,fun D0 h0=>by cases h0⟩;subst e;rw[qq]at hx;cases hx
  .refine⟨fun x=>x=b\/G2.bJ x=some D,.inl rfl,fun x hx e=>?_,fun D0 h0=>?_⟩
   .rcases e with rfl|e
    .rw[qq]at hx;cases hx
    .cases nh:G.bJ x with
     |none=>rw[nh]at hx;cases hx
     |some D'=>
      have:=gM.bJ x D' nh;rw[e]at this;cases this;obtain⟨_,_,_,k⟩:=hI.lp x D nh;exact n1 k
   .rw[List.mem_singleton]at h0;subst h0;grind
 have iF:marks.Nodup:=by rcases hmarks with⟨rfl,_⟩|⟨rfl,_⟩<;>simp
 open Classical in
 have hC:=hB.DN (fun x=>if del x then none else G2.bJ x) G2.ds (fun i st pe li c l e dI hl oh=>by
   rcases yP i _ e with e|⟨_,e⟩
   .obtain⟨c',l',q1,q2,q3,q4,q5,q6,q7,q8,q9,MW⟩:=hI.obj i _ e;have:=xu.ρ i c' q1;rw[dI]at this;cases this;rw[if_neg (xv c (by rw[q9];rfl))];exact oh
   .exact absurd rfl (e st pe li))
  (fun x D0 e=>by
   split at e
   .cases e
   .obtain⟨l,q1,q2,q3⟩:=hB.lp x D0 e;exact⟨⟨l,q1,q2,q3⟩,hB.jx x D0 e⟩)
  hB.gu
 open Classical in
 have xx:G.le {G2.cut h2.length with bJ:=fun x=>if del x then none else G2.bJ x,ds:=G2.ds}:=
  ⟨xu.w0,xu.ρ,xu.F,xu.ar,fun x D0 e=>by
   show(if del x then none else G2.bJ x)=some D0;rw[if_neg (xv x (by rw[e];rfl))];exact gM.bJ x D0 e,gM.ds,fun x D0 e ed=>by
   have e':(if del x then none else G2.bJ x)=some D0:=e;split at e'
   .cases e'
   .exact gM.ym x D0 e' ed⟩
 have xy:∀G':Gh,G'.ρ=(G2.cut h2.length).ρ->G'.F=(G2.cut h2.length).F->G'.ar=(G2.cut h2.length).ar->TR N G' σ a.tmps:=fun G' e1 e2 e3=>
  ⟨ht.1,fun i=>VR.same e1 e2 e3 (((ht.2 i).mono gM).cut (by rw[hlen];exact(ht.2 i).rb hI.sF))⟩
 have nG:∀(G':Gh),G'.ds=G2.ds->(∀x,G'.bJ x=if del x then none else G2.bJ x)->∀D0∈marks,¬G.ds D0/\G'.ds D0/\∀x,G'.bJ x≠some D0:=fun G' e1 e2 D0 h0=>by
  obtain⟨q1,q2,q3⟩:=DO D0 h0;refine⟨q1,by rw[e1];exact q2,fun x e=>?_⟩;rw[e2]at e;split at e
  .cases e
  .rename_i hn;exact hn (q3 x e)
 generalize w3.putObj b (.loop {l3 with state:= .exhausted})=W at hC|-;rw[m4];cases pe with
 |none=>exact⟨_,σ,h2,marks,xx,hC,xy _ rfl rfl rfl,rfl,nG _ rfl (fun _=>rfl),iF,xq⟩
 |some c=>exact bw.after (show bw P Γ N c Q σ h2 from xq) hr xx (nG _ rfl (fun _=>rfl)) iF hC (a:={a with defers:=marks.map mark++a.defers}) (xy _ rfl rfl rfl) rfl
end
section
variable {P:Program} {Γ:GG} {G:Gh} {h:AH} {w:World} {N:Nat} {σ:Tm} {Q:Exit->Tm->AH->Prop}
theorem az.ajK{f args R}(H:az P Γ f args h fun v h'=>∃h2 l,h'=h2++l/\lJ h h2/\RB h.length v/\R v h2):az P Γ f args h R:=
 ⟨H.1,fun G w vs hI hv=>(H.2 G w vs hI hv).mono fun e w' hr=>by
  obtain⟨v,G',av,h',rfl,k1,k2,k3,h2,l,rfl,⟨hlen,yP⟩,QE,hR⟩:=hr;refine⟨v,G'.cut h2.length,av,h2,rfl,Gh.IF k1 (by rw[hlen];exact hI.sF),k2.drop (fun i ob e=>by
   rw[hlen];rcases yP i ob e with e|⟨e,_⟩
   .exact hI.IE e
   .exact e) (by rw[hlen];exact hI.IG),k3.cut (by rw[hlen];exact QE),hR⟩⟩
@[go_sem] theorem azX(h l:AH):(∃m,h++l=h++m)=True:=eq_true ⟨l,rfl⟩
@[go_sem] theorem azY(h:AH):(∃m,h=h++m)=True:=eq_true ⟨[],by simp⟩
@[go_sem] theorem azZ(h l:AH)(a):(∃m,h++(a::l)=h++(a::m))=True:=eq_true ⟨l,rfl⟩
@[go_sem] theorem az0(n b):RB n (.bool b)=True:=eq_true (.bool b)
@[go_sem] theorem az1(n k x):RB n (.int k x)=True:=eq_true (.int k x)
@[go_sem] theorem az2(n s):RB n (.str s)=True:=eq_true (.str s)
@[go_sem] theorem az3(n):RB n (.sl [] .full)=True:=eq_true (.Xb (fun _ h=>by cases h))
@[go_sem] theorem az4(n):RB n (.sl [] .free)=True:=eq_true (.qo (fun _ h=>by cases h))
@[go_sem] theorem az5(n l):RB n (.tuple l)=bB n l:=propext ⟨fun h=>by cases h;assumption,fun h=> .tuple' h⟩
@[go_sem] theorem az6(n l):RB n (.agg l)=bB n l:=propext ⟨fun h=>by cases h;assumption,fun h=> .Al h⟩
@[go_sem] theorem az7(n a l):bB n (a::l)=(RB n a/\bB n l):=propext ⟨fun h=>⟨h 0 a rfl,fun j c e=>h (j+1) c e⟩,fun h=> .cons h.1 h.2⟩
@[go_sem] theorem az8(n):bB n []=True:=eq_true (bB.nil n)
theorem az.eT{g cD R v h2}(H:az P Γ g cD h fun v' h'=>h'=h2/\v'=v)(hR:R v h2):az P Γ g cD h R:=H.mono fun v' h' e=>by rw[e.1,e.2];exact hR
theorem az.heap{g cD R h1}(H:az P Γ g cD h1 R)(e:h1=h):az P Γ g cD h R:=e▸H
theorem az.args{g cD bs R}(H:az P Γ g cD h R)(e:cD=bs):az P Γ g bs h R:=e▸H
def Wk(a b:AV):Prop:=∀G v,VR G a v->VR G b v
theorem Wk.refl(a):Wk a a:=fun _ _ h=>h
theorem Wk.sl(rows own):Wk (.sl rows own) (.sl rows .free):=fun G v h=>by
 cases h with
 |sl vals h1 h2 h3 h4 h5 h6=>exact .sl vals h1 h2 h3 h4 h5 trivial
inductive yR:List AV->List AV->Prop
 |nil:yR [] []
 |cons {a b:AV} {l m:List AV} (h:Wk a b) (k:yR l m):yR (a::l) (b::m)
theorem yR.get{l m}(h:yR l m):l.length=m.length/\∀(j:Nat) (c),m[j]? =some c->∃d,l[j]? =some d/\Wk d c:=by
 induction h with
 |nil=>grind
 |cons h _ ih=>
  grind
theorem yR.refl:∀l:List AV,yR l l
 |[]=> .nil
 |a::l=> .cons (.refl a) (yR.refl l)
theorem Wk.tuple{l m}(h:yR l m):Wk (.tuple l) (.tuple m):=fun G v hv=>by
 cases hv with
 |tuple h1 h2=>exact .tuple (by rw[<-h.get.1,h1]) fun j c e=>by obtain⟨d,e1,e2⟩:=h.get.2 j c e;exact e2 _ _ (h2 j d e1)
theorem Wk.agg{l m}(h:yR l m):Wk (.agg l) (.agg m):=fun G v hv=>by
 cases hv with
 |agg h1 h2=>exact .agg (by rw[<-h.get.1,h1]) fun j c e=>by obtain⟨d,e1,e2⟩:=h.get.2 j c e;exact e2 _ _ (h2 j d e1)
theorem az.ajL{f args}{R:AV->Prop}(H:az P Γ f args h fun v h'=>(∃l,h'=h++l)/\∃v',Wk v v'/\RB h.length v'/\R v'):az P Γ f args h fun v h'=>h'=h/\R v:=
 az.drop ⟨H.1,fun G w vs hI hv=>(H.2 G w vs hI hv).mono fun e w' hr=>by obtain⟨v,G',av,h',rfl,h2,h3,h4,h5,v',h6,h7,h8⟩:=hr;exact⟨v,G',v',h',rfl,h2,h3,h6 _ _ h4,h5,h7,h8⟩⟩
theorem lJ.set{i ob}(hb:Mh h.length ob)(hl:∀st pe li,ob≠ .loop st pe li):lJ h (h.set i ob):=by refine⟨by simp,fun j o e=>?_⟩;grind
theorem ajM{g ps assign body gf first iQ}(hg:ev Γ σ g= .func gf first iQ)
  (H:∀li,li=⟨N,σ,ps,assign,body,none⟩->az P Γ gf (first++[.yield h.length]++iQ) (h++[.loop .ready none li]) fun _ h'=>∃h2 st pe l,h'=h2++ .loop st pe li::l/\lJ h h2/\st≠ .busy/\uK P Γ N Q σ h2 pe):
  bw P Γ N (.rangeFunc g ps assign body) Q σ h:=ajJ hg (H _ rfl)
def FV(N:Nat)(ps:Array Tmp):Bool:=ps.toList.all (Nat.blt · N)
theorem Jf{L N' fo li σ' ps assign body args R}(e:li=⟨N',σ',ps,assign,body,fo⟩)(hL:h[L]? =some (.loop .ready none li))(hN:FV N' ps=true)(hlen:ps.toList.length=args.length)
  (hm:P.follows .mixedOrders=true)(kz:gW N' assign=true)(FW:gW N' body=true)
  (H:fO P Γ N' assign (iP (fun σ h'=>h'[L]? =some (.loop .ready none li)/\fO P Γ N' body (Cd L li R) σ (h'.set L (.loop .busy none li))) fun _ _ _=>False) (qv ps.toList args σ') h):rD P Γ L args h R:=by
 subst e;refine Yq hL (fun p hp=>?_) hlen ((tL hm _ _ _ _ kz H).mono fun e σ h he=>?_)
 .simp only[FV,List.all_eq_true]at hN;simp_all
 .cases e with
  |normal=>exact⟨he.1,tL hm _ _ _ _ FW he.2⟩
  |_=>exact he
@[go_sem] theorem az9(p ps a l):qv (p::ps) (a::l) σ=qv ps l ((p,a)::σ):=(rfl)
@[go_sem] theorem az_:qv [] [] σ=σ:=(rfl)
@[go_sem] theorem aAa(L li R):Cd L li R .normal σ h=(h[L]? =some (.loop .busy none li)/\R (.bool true) (h.set L (.loop .ready none li))):=(rfl)
@[go_sem] theorem aAb(L li R):Cd L li R .ret σ h=(h[L]? =some (.loop .busy none li)/\R (.bool false) (h.set L (.loop .done (some .ret) li))):=(rfl)
@[go_sem] theorem Cf:uK P Γ N Q σ h none=Q .normal σ h:=(rfl)
theorem Rv{c}(hm:P.follows .mixedOrders=true)(hc:gW N c=true)(H:fO P Γ N c Q σ h):uK P Γ N Q σ h (some c):=tL hm _ _ _ _ hc H
theorem lJ.trans{h1 h2}(a:lJ h h1)(b:lJ h1 h2):lJ h h2:=
 ⟨b.1.trans a.1,fun i ob e=>by
  rcases b.2 i ob e with e|e
  .exact a.2 i ob e
  .rw[a.1]at e;exact .inr e⟩
theorem az.MX{f args}{R:AV->Prop}{h2}(hk:lJ h h2)(H:az P Γ f args h fun v h'=>(∃l,h'=h2++l)/\RB h.length v/\R v):az P Γ f args h fun v h'=>h'=h2/\R v:=
 az.ajK (H.mono fun v h' e=>by grind)
theorem Rw{i}(l o)(hi:i<h.length):(h++l).set i o=h.set i o++l:=List.set_append_left _ _ hi
theorem ph{i o}(e:h[i]? =some o):h.set i o=h:=by refine List.ext_getElem? fun j=>?_;grind
theorem ajN{i o}(l:AH)(hi:i<h.length):(h.set i o++l)[i]? =some o:=by grind
theorem xA{i o}(e:h[i]? =some o):i<h.length:=(List.getElem?_eq_some_iff.1 e).1
theorem Ay{i}(l)(hi:i<h.length):(h++l)[i]? =h[i]? :=List.getElem?_append_left hi
def DP{α β:Type}(L:List Nat)(st:List α->β->Tm)(hp:β->AH)(inv:List α->List α->β->Prop)(ae:List α)(x:α)(r:List α)(Q:Exit->Tm->AH->Prop):Exit->Tm->AH->Prop
 | .normal,σ,h=>∃b,inv (ae++[x]) r b/\yE (keep L σ) (st (ae++[x]) b)/\h=hp b
 |e,σ,h=>Q e σ h
def DQ(Q:Exit->Tm->AH->Prop):Exit->Tm->AH->Prop
 | .normal,_,_=>False
 |e,σ,h=>Q e σ h
@[go_sem] theorem aAc{α β L}{st:List α->β->Tm}{hp inv ae x r}:DP L st hp inv ae x r Q .ret σ h=Q .ret σ h:=(rfl)
@[go_sem] theorem aAd{α β L}{st:List α->β->Tm}{hp inv ae x r}(l):DP L st hp inv ae x r Q (.exit l) σ h=Q (.exit l) σ h:=(rfl)
@[go_sem] theorem aAe(l):DQ Q (.exit l) σ h=Q (.exit l) σ h:=(rfl)
theorem cd{α β L st hp inv ae x}{r:List α}(b:β)(h1:inv (ae++[x]) r b)(h2:keep L σ=st (ae++[x]) b)(h3:h=hp b):
  DP L st hp inv ae x r Q .normal σ h:=⟨b,h1,.of_eq h2,h3⟩
theorem oO{α β c}(xs L)(st:List α->β->Tm)(hp inv b0)(h1:keep L σ=st [] b0)(h2:h=hp b0)(h3:inv [] xs b0)
  (hm:P.follows .mixedOrders=true)(hc:gW N c=true)(H1:∀ae x r b,xs=ae++x::r->inv ae (x::r) b->fO P Γ N c (DP L st hp inv ae x r Q) (st ae b) (hp b))
  (H0:∀b,inv xs [] b->fO P Γ N c (DQ Q) (st xs b) (hp b)):bw P Γ N (.loop c) Q σ h:=by
 refine Iw (fun n σ h=>∃ae rest b,n=rest.length/\xs=ae++rest/\inv ae rest b/\yE (keep L σ) (st ae b)/\h=hp b) ⟨[],xs,b0,rfl,rfl,h3,.of_eq h1,h2⟩ fun n σ h hx=>?_;obtain⟨ae,rest,b,rfl,iX,hi,hs,rfl⟩:=hx;refine bw.keep L (bw.Ix ?_ hs);cases rest with
 |nil=>
  rw[List.append_nil]at iX;subst iX;refine(tL hm c _ _ _ hc (H0 b hi)).mono fun e σ h he=>?_;cases e with
  |normal=>exact he.elim
  |_=>exact he
 |cons x r=>
  refine(tL hm c _ _ _ hc (H1 ae x r b iX hi)).mono fun e σ h he=>?_;cases e with
  |normal=>
   obtain⟨b',k1,k2,k3⟩:=he;exact⟨r.length,by simp,ae++[x],r,b',rfl,by simp[iX],k1,k2,k3⟩
  |_=>exact he
end
end Go.aS
namespace Go.aS
open Go Go.Proofs
theorem aU{p q:Prop}(h:q)(e:p=q:=by conv=>lhs;simp(disch:=omega) only[go_sem,seval]):p:=e▸h
theorem dL{p:Prop}(e:p=True:=by simp(disch:=omega) only[go_sem,seval]):p:=of_eq_true e
theorem bu{p q r:Prop}(f:r->p)(h:q)(e:r=q:=by conv=>lhs;simp(disch:=omega) only[go_sem,seval]):p:=f (e▸h)
theorem Jg{p r:Prop}(f:r->p)(e:r=True:=by simp(disch:=omega) only[go_sem,seval]):p:=f (of_eq_true e)
theorem zwA{t0 p q:Prop}(l0:t0)(h:q)(e:t0->p=q:=by intro l0;conv=>lhs;simp(disch:=omega) only[go_sem,seval,l0]):p:=(e l0)▸h
theorem zwB{t0 p:Prop}(l0:t0)(e:t0->p=True:=by intro l0;simp(disch:=omega) only[go_sem,seval,l0]):p:=of_eq_true (e l0)
theorem zwF{t0 p q r:Prop}(f:r->p)(l0:t0)(h:q)(e:t0->r=q:=by intro l0;conv=>lhs;simp(disch:=omega) only[go_sem,seval,l0]):p:=f ((e l0)▸h)
theorem zwG{t0 p r:Prop}(f:r->p)(l0:t0)(e:t0->r=True:=by intro l0;simp(disch:=omega) only[go_sem,seval,l0]):p:=f (of_eq_true (e l0))
theorem aAj{t0 t1 p q:Prop}(l0:t0)(l1:t1)(h:q)(e:t0->t1->p=q:=by intro l0 l1;conv=>lhs;simp(disch:=omega) only[go_sem,seval,l0,l1]):p:=(e l0 l1)▸h
theorem aAk{t0 t1 p:Prop}(l0:t0)(l1:t1)(e:t0->t1->p=True:=by intro l0 l1;simp(disch:=omega) only[go_sem,seval,l0,l1]):p:=of_eq_true (e l0 l1)
theorem aAl{t0 t1 p q r:Prop}(f:r->p)(l0:t0)(l1:t1)(h:q)(e:t0->t1->r=q:=by intro l0 l1;conv=>lhs;simp(disch:=omega) only[go_sem,seval,l0,l1]):p:=f ((e l0 l1)▸h)
theorem aAm{t0 t1 p r:Prop}(f:r->p)(l0:t0)(l1:t1)(e:t0->t1->r=True:=by intro l0 l1;simp(disch:=omega) only[go_sem,seval,l0,l1]):p:=f (of_eq_true (e l0 l1))
theorem aAn{t0 t1 t2 p q:Prop}(l0:t0)(l1:t1)(l2:t2)(h:q)(e:t0->t1->t2->p=q:=by intro l0 l1 l2;conv=>lhs;simp(disch:=omega) only[go_sem,seval,l0,l1,l2]):p:=(e l0 l1 l2)▸h
theorem aAo{t0 t1 t2 p:Prop}(l0:t0)(l1:t1)(l2:t2)(e:t0->t1->t2->p=True:=by intro l0 l1 l2;simp(disch:=omega) only[go_sem,seval,l0,l1,l2]):p:=of_eq_true (e l0 l1 l2)
theorem aAq{t0 t1 t2 p q r:Prop}(f:r->p)(l0:t0)(l1:t1)(l2:t2)(h:q)(e:t0->t1->t2->r=q:=by intro l0 l1 l2;conv=>lhs;simp(disch:=omega) only[go_sem,seval,l0,l1,l2]):p:=f ((e l0 l1 l2)▸h)
theorem aAr{t0 t1 t2 p r:Prop}(f:r->p)(l0:t0)(l1:t1)(l2:t2)(e:t0->t1->t2->r=True:=by intro l0 l1 l2;simp(disch:=omega) only[go_sem,seval,l0,l1,l2]):p:=f (of_eq_true (e l0 l1 l2))
theorem aAs{α:Type}{a b:List α}:(a++b).length=a.length+b.length:=List.length_append
theorem aAt{α β:Type}{a:List α}(f:α->β):(a.map f).length=a.length:=List.length_map f
theorem aAu{α:Type}:([]:List α).length=0:=rfl
theorem aAv{α:Type}{x:α}{a:List α}:(x::a).length=a.length+1:=rfl
theorem aAw{α β:Type}{f:α->β}{a b:List α}:(a++b).map f=a.map f++b.map f:=List.map_append
theorem aAx{α β:Type}{f:α->β}{x:α}{a:List α}:(x::a).map f=f x::a.map f:=rfl
theorem aAy{α β:Type}{f:α->β}:([]:List α).map f=[]:=rfl
theorem aAz{α:Type}{a b c:List α}:a++b++c=a++(b++c):=List.append_assoc ..
theorem aAA{α:Type}{x:α}{a b:List α}:(x::a)++b=x::(a++b):=rfl
theorem aAB{α:Type}{a:List α}:[]++a=a:=rfl
theorem aAC{α:Type}{a:List α}:a++[]=a:=List.append_nil _
abbrev zI(n:Int):AV:= .int .i64 n
abbrev zF(l:List AV):AV:= .sl l .free
abbrev zS(s:List UInt8):AV:= .str ⟨⟨s⟩⟩
theorem zin{α:Sort _}{c:Prop}[Decidable c]{a b:α}(h:¬c:=by omega):ite c a b=b:=if_neg h
theorem zip{α:Sort _}{c:Prop}[Decidable c]{a b:α}(h:c:=by omega):ite c a b=a:=if_pos h
theorem zgn{α:Type _}{l:List α}{i j:Nat}{a:α}(h:i≠j:=by omega):(l.set i a)[j]? =l[j]? :=List.getElem?_set_ne h
theorem zgg{α:Type _}{l:List α}{i:Nat}(h:i<l.length:=by omega):l[i]? =some l[i]:=List.getElem?_eq_getElem h
theorem zdf{p:Prop}[Decidable p](h:¬p:=by omega):decide p=false:=decide_eq_false h
theorem zdt{p:Prop}[Decidable p](h:p:=by omega):decide p=true:=decide_eq_true h
abbrev AC(Γ:GG)(f:FuncId)(args:List AV)(h:AH)(u:AV):Prop:=az Tryz.prog Γ f args h fun v h'=>h'=h/\v=u
section
variable {Γ:GG} {N:Nat} {σ:Tm} {h:AH} {Q:Exit->Tm->AH->Prop} {c x y:Code}
theorem gO(H:fO Tryz.prog Γ N c Q σ h)(hc:gW N c=true:=by kernel_rfl):bw Tryz.prog Γ N c Q σ h:=tL Go.Proofs.YtmfjlankeocaoaaGreatDoor.Ty.mixed _ _ _ _ hc H
theorem eQ(H:fO Tryz.prog Γ N x (iP (bw Tryz.prog Γ N y Q) Q) σ h)(hc:gW N x=true:=by kernel_rfl):bw Tryz.prog Γ N (.seq x y) Q σ h:=fR (gO H hc)
theorem cI{q:Prop}(H:q)(e:fO Tryz.prog Γ N x (iP (bw Tryz.prog Γ N y Q) Q) σ h=q:=by conv=>lhs;simp(disch:=omega) only[go_sem,seval])(hc:gW N x=true:=by kernel_rfl):bw Tryz.prog Γ N (.seq x y) Q σ h:=eQ (e▸H) hc
theorem jL(L:List Nat)(H:fO Tryz.prog Γ N c Q (keep L σ) h)(hc:gW N c=true:=by kernel_rfl):bw Tryz.prog Γ N c Q σ h:=bw.keep L (gO H hc)
theorem cS{f:FuncId}{fn:Func}{args:List AV}{R:AV->AH->Prop}(rs:List ResultVar)(hf:Tryz.prog.funcs[f]? =some fn)(H:fO Tryz.prog Γ fn.ntmps c (vQ Tryz.prog rs R) (nJ 0 args) h)(hb:fn.body=some c:=by rfl)(hn:(fn.name== "runtime.NumGoroutine")=false:=by rfl)
  (hN:Nat.ble args.length fn.ntmps=true:=by rfl)(fJ:fn.results=rs.toArray:=by rfl)(hc:gW fn.ntmps c=true:=by kernel_rfl):az Tryz.prog Γ f args h R:=aiv hf hb hn hN fJ Go.Proofs.YtmfjlankeocaoaaGreatDoor.Ty.mixed hc H
theorem tO{f:FuncId}{fn:Func}{args:List AV}{R:AV->AH->Prop}(rs:List ResultVar)(hf:Tryz.prog.funcs[f]? =some fn)(H:bw Tryz.prog Γ fn.ntmps c (vQ Tryz.prog rs R) (nJ 0 args) h)(hb:fn.body=some c:=by rfl)(hn:(fn.name== "runtime.NumGoroutine")=false:=by rfl)
  (hN:Nat.ble args.length fn.ntmps=true:=by rfl)(fJ:fn.results=rs.toArray:=by rfl):az Tryz.prog Γ f args h R:=Ml hf hb hn hN fJ H
theorem bL{g:FuncId}{a:List AV}{R:AV->AH->Prop}{v:AV}{q:Prop}(H:az Tryz.prog Γ g a h fun v' h'=>h'=h/\v'=v)(k:q)(e:R v h=q:=by conv=>lhs;simp(disch:=omega) only[go_sem,seval]):az Tryz.prog Γ g a h R:=az.cv H (e▸k)
theorem qx{g:FuncId}{a:List AV}{R:AV->AH->Prop}{v:AV}(H:az Tryz.prog Γ g a h fun v' h'=>h'=h/\v'=v)(e:R v h=True:=by simp(disch:=omega) only[go_sem,seval]):az Tryz.prog Γ g a h R:=az.cv H (of_eq_true e)
theorem ziP{c:Prop}{A B:KB}{MY MZ:Tm}(H:A MY h)(hc:c:=by omega):aJ c A MY B MZ h:=aJ.pos hc H
theorem ziN{c:Prop}{A B:KB}{MY MZ:Tm}(H:B MZ h)(hc:¬c:=by omega):aJ c A MY B MZ h:=aJ.neg hc H
theorem d_{α β:Type}(xs:List α)(L:List Nat)(st:List α->β->Tm)(hp:β->AH)(inv:List α->List α->β->Prop)(b0:β)(h1:keep L σ=st [] b0)(h2:h=hp b0)(h3:inv [] xs b0)
  (H1:∀ae x r b,xs=ae++x::r->inv ae (x::r) b->fO Tryz.prog Γ N c (DP L st hp inv ae x r Q) (st ae b) (hp b))
  (H0:∀b,inv xs [] b->fO Tryz.prog Γ N c (DQ Q) (st xs b) (hp b))(hc:gW N c=true:=by kernel_rfl):bw Tryz.prog Γ N (.loop c) Q σ h:=oO xs L st hp inv b0 h1 h2 h3 Go.Proofs.YtmfjlankeocaoaaGreatDoor.Ty.mixed hc H1 H0
theorem gR{q:Prop}(H:q)(e:fO Tryz.prog Γ N c Q σ h=q:=by conv=>lhs;simp(disch:=omega) only[go_sem,seval])(hc:gW N c=true:=by kernel_rfl):bw Tryz.prog Γ N c Q σ h:=gO (e▸H) hc
theorem Rx(e:fO Tryz.prog Γ N c Q σ h=True:=by simp(disch:=omega) only[go_sem,seval])(hc:gW N c=true:=by kernel_rfl):bw Tryz.prog Γ N c Q σ h:=gO (of_eq_true e) hc
theorem fE(L:List Nat){q:Prop}(H:q)(e:fO Tryz.prog Γ N c Q (keep L σ) h=q:=by conv=>lhs;simp(disch:=omega) only[go_sem,seval])(hc:gW N c=true:=by kernel_rfl):bw Tryz.prog Γ N c Q σ h:=jL L (e▸H) hc
theorem yT(L:List Nat)(e:fO Tryz.prog Γ N c Q (keep L σ) h=True:=by simp(disch:=omega) only[go_sem,seval])(hc:gW N c=true:=by kernel_rfl):bw Tryz.prog Γ N c Q σ h:=jL L (of_eq_true e) hc
theorem cY{f:FuncId}{fn:Func}{args:List AV}{R:AV->AH->Prop}(rs:List ResultVar)(hf:Tryz.prog.funcs[f]? =some fn){q:Prop}(H:q)(hb:fn.body=some c:=by rfl)(hn:(fn.name== "runtime.NumGoroutine")=false:=by rfl)(hN:Nat.ble args.length fn.ntmps=true:=by rfl)(fJ:fn.results=rs.toArray:=by rfl)(hc:gW fn.ntmps c=true:=by kernel_rfl)(e:fO Tryz.prog Γ fn.ntmps c (vQ Tryz.prog rs R) (nJ 0 args) h=q:=by conv=>lhs;simp(disch:=omega) only[go_sem,seval]):az Tryz.prog Γ f args h R:=cS rs hf (e▸H) hb hn hN fJ hc
theorem xB{f:FuncId}{fn:Func}{args:List AV}{R:AV->AH->Prop}(rs:List ResultVar)(hf:Tryz.prog.funcs[f]? =some fn)(hb:fn.body=some c:=by rfl)(hn:(fn.name== "runtime.NumGoroutine")=false:=by rfl)(hN:Nat.ble args.length fn.ntmps=true:=by rfl)(fJ:fn.results=rs.toArray:=by rfl)(hc:gW fn.ntmps c=true:=by kernel_rfl)(e:fO Tryz.prog Γ fn.ntmps c (vQ Tryz.prog rs R) (nJ 0 args) h=True:=by simp(disch:=omega) only[go_sem,seval]):az Tryz.prog Γ f args h R:=cS rs hf (of_eq_true e) hb hn hN fJ hc
end
end Go.aS
namespace Go.aS
open Go Go.RowKit
mutual
def loose:AV->AV
 | .agg cs=> .agg (eI cs)
 | .tuple cs=> .tuple (eI cs)
 | .sl rows _=> .sl (eI rows) .free
 | .top=> .top
 | .int k n=> .int k n
 | .bool b=> .bool b
 | .str s=> .str s
 | .ptr p=> .ptr p
 | .bS cs=> .bS cs
 | .ms i off len cap sz=> .ms i off len cap sz
 | .map r=> .map r
 | .func f a b=> .func f a b
 | .yield l=> .yield l
 | .nilFunc=> .nilFunc
 | .iface t v=> .iface t v
 | .nilIface=> .nilIface
def eI:List AV->List AV
 |[]=>[]
 |a::l=>loose a::eI l
end
theorem rK(l):eI l=l.map loose:=by
 induction l with
 |nil=>rfl
 |cons a l ih=>simp[eI,ih]
theorem Ys(a):(loose a).cells=a.cells.map loose:=by cases a<;>first|rfl|simp[loose,AV.cells,rK]
theorem Jh{G a v}(h:VR G a v):VR G (loose a) v:=by
 induction h with
 |top v=>exact .top v
 |int k n=>exact .int k n
 |bool b=>exact .bool b
 |str s=>exact .str s
 |rj=>exact .rj
 |ptr h=>exact .ptr h
 |bS vals hF hv _=>exact .bS vals hF hv
 | @sl rows own a cap sz vals jc iT cj hF _ cP ih=>
  have hg:∀(k:Nat) (r:AV) (j:Nat) (c:AV),(eI rows)[k]? =some r->r.cells[j]? =some c->∃r0 c0,rows[k]? =some r0/\r0.cells[j]? =some c0/\c=loose c0:=fun k r j c e e'=>by rw[rK,List.getElem?_map]at e;obtain⟨r0,h0,rfl⟩:=Option.map_eq_some_iff.1 e;rw[Ys,List.getElem?_map]at e';grind
  have hl:(eI rows).length=rows.length:=by rw[rK];simp
  rw[loose,<-hl];exact .sl vals (by rw[hl];exact jc) iT (fun k r e=>by
   rw[rK,List.getElem?_map]at e;obtain⟨r0,h0,rfl⟩:=Option.map_eq_some_iff.1 e;rw[Ys,List.length_map];exact cj k r0 h0) (fun k r j c e e'=>by
   obtain⟨r0,c0,h0,h1,_⟩:=hg k r j c e e';exact hF k r0 j c0 h0 h1) (fun k r j c e e'=>by grind) trivial
 |ms h=>exact .ms h
 |rm=>exact .rm
 |map h=>exact .map h
 |func hf hc h1 h2 _ _=>exact .func hf hc h1 h2
 |yield h=>exact .yield h
 |nilFunc=>exact .nilFunc
 |iface t h _=>exact .iface t h
 |nilIface=>exact .nilIface
 |agg hl _ ih=>
  refine .agg (by rw[rK];simpa using hl) fun j c e=>?_;rw[rK,List.getElem?_map]at e;grind
 |tuple hl _ ih=>
  refine .tuple (by rw[rK];simpa using hl) fun j c e=>?_;rw[rK,List.getElem?_map]at e;grind
section
variable {P:Program} {Γ:GG} {G:Gh} {h:AH} {w:World} {N:Nat} {σ:Tm} {Q:Exit->Tm->AH->Prop}
theorem az.tP{f cD bs R}(H:az P Γ f bs h R)(e:eI cD=bs):az P Γ f cD h R:=
 ⟨H.1,fun G w vs hI hv=>H.2 G w vs hI (by subst e;refine⟨by rw[rK];simpa using hv.1,fun j c e=>?_⟩;rw[rK,List.getElem?_map]at e;obtain⟨c0,h0,rfl⟩:=Option.map_eq_some_iff.1 e;exact Jh (hv.2 j c0 h0))⟩
theorem az.ji{f args}{R:AV->Prop}(H:az P Γ f args h fun v h'=>(∃l,h'=h++l)/\RB h.length (loose v)/\R (loose v)):az P Γ f args h fun v h'=>h'=h/\R v:=
 az.ajL (H.mono fun v h' e=>⟨e.1,loose v,fun _ _ hv=>Jh hv,e.2⟩)
def M4(h h':AH):Prop:=h'.length=h.length/\∀(i:Nat) (ob:cO),h'[i]? =some ob->h[i]? =some ob\/∃cs T,h[i]? =some (.row cs T)/\ob= .row (eI cs) T
theorem M4.refl(h):M4 h h:=⟨rfl,fun _ _ e=> .inl e⟩
theorem M4.set{i cs T}(e:h[i]? =some (.row cs T)):M4 h (h.set i (.row (eI cs) T)):=by refine⟨by simp,fun j ob ej=>?_⟩;grind
attribute [go_sem] loose eI
theorem uL{α:Type}(f)(hf:∀x,loose (f x)=f x)(l:List α):eI (l.map f)=l.map f:=by rw[rK,List.map_map];congr 1;funext x;exact hf x
def fX(K j:AH)(n:Nat):Own->Prop
 | .full=>True
 | .bN i=>∃i',i=K.length+i'/\j[i']? =some (.bN n)
 | .free=>False
def M5(j j':AH):Prop:=j.length<=j'.length/\∀(i:Nat) (o:cO),j[i]? =some o->(∀n,o≠ .bN n)->j'[i]? =some o
theorem M5.refl(j):M5 j j:=⟨Nat.le_refl _,fun _ _ e _=>e⟩
theorem fX.app{K j n own}(ho:fX K j n own)(l):fX K (j++l) n own:=by
 cases own with
 |full=>trivial
 |free=>exact ho
 |bN i=>
  obtain⟨i',rfl,e⟩:=ho;exact⟨i',rfl,eP l e⟩
theorem ajO{n by_ rows xs own x K j C}(ho:fX K j rows.length own)(hx:qi x (K++j) xs)(h1:db n rows)(h2:db n xs)
  (h3:rows.length+xs.length<=9223372036854775807)(h4:(rows.length+xs.length)*by_<=140737488355328)
  (H:∀j' eY,fX K j' (rows.length+xs.length) eY->M5 j j'->C (.sl (rows++xs) eY) (K++j')):pU (some (n,by_)) (.sl rows own) x (K++j) C:=by
 refine⟨xs,hx,h1,h2,h3,h4,?_⟩;cases own with
 |free=>exact ho.elim
 |full=>
  have:=H (j++[.bN (rows.length+xs.length)]) (.bN (K.length+j.length)) ⟨j.length,rfl,by simp⟩ ⟨by simp,fun i o e _=>eP _ e⟩;simpa [List.append_assoc]using this
 |bN i=>
  obtain⟨i',rfl,e⟩:=ho;have e':(K++j)[K.length+i']? =some (.bN rows.length):=by rw[nK];exact e
  show(match(K++j)[K.length+i']? with
   |some (.bN m)=>m=rows.length/\C (.sl (rows++xs) (.bN (K.length+i'))) ((K++j).set (K.length+i') (.bN (rows.length+xs.length)))
   |_=>False)
  rw[e'];refine⟨rfl,?_⟩;rw[mq];have hi:i'<j.length:=(List.getElem?_eq_some_iff.1 e).1;refine H _ _ ⟨i',rfl,by rw[List.getElem?_set_self hi]⟩ ⟨by simp,fun k o ek hk=>?_⟩;grind
theorem pV{n by_ rows xs own o K j C}(ho:fX K j rows.length own)(h1:db n rows)(h2:db n xs)
  (h3:rows.length+xs.length<=9223372036854775807)(h4:(rows.length+xs.length)*by_<=140737488355328)
  (H:∀j' eY,fX K j' (rows.length+xs.length) eY->M5 j j'->C (.sl (rows++xs) eY) (K++j')):pU (some (n,by_)) (.sl rows own) (.sl xs o) (K++j) C:=
 ajO ho rfl h1 h2 h3 h4 H
theorem yU{n by_ rows xs o C}(h1:db n rows)(h2:db n xs)
  (h3:rows.length+xs.length<=9223372036854775807)(h4:(rows.length+xs.length)*by_<=140737488355328)
  (H:C (.sl (rows++xs) (.bN h.length)) (h++[.bN (rows.length+xs.length)])):pU (some (n,by_)) (.sl rows .full) (.sl xs o) h C:=
 ⟨xs,rfl,h1,h2,h3,h4,H⟩
theorem yV{n by_ i rows xs o C}(hi:h[i]? =some (.bN rows.length))(h1:db n rows)(h2:db n xs)
  (h3:rows.length+xs.length<=9223372036854775807)(h4:(rows.length+xs.length)*by_<=140737488355328)
  (H:C (.sl (rows++xs) (.bN i)) (h.set i (.bN (rows.length+xs.length)))):pU (some (n,by_)) (.sl rows (.bN i)) (.sl xs o) h C:=by
 refine⟨xs,rfl,h1,h2,h3,h4,?_⟩;grind
end
def rowsOf(sz:Nat):Nat->List AV->List AV
 |0,_=>[]
 |k+1,l=>(if sz=1 then l.headD .top else .agg (l.take sz))::rowsOf sz k (l.drop sz)
def tQ(cs:List AV)(off len cap sz:Nat):Bool:=decide (off+len*sz<=cs.length)&&decide (len<=cap)&&(sz !=0)&&cs.all fun c=>!c.isAgg
mutual
def dd(i:Nat)(cs:List AV):AV->AV
 | .ms i' off len cap sz=>if i'=i/\tQ cs off len cap sz=true then .sl (rowsOf sz len (cs.drop off)) .free else .ms i' off len cap sz
 | .agg l=> .agg (fB i cs l)
 | .tuple l=> .tuple (fB i cs l)
 | .sl rows own=> .sl (fB i cs rows) own
 | .top=> .top
 | .int k n=> .int k n
 | .bool b=> .bool b
 | .str s=> .str s
 | .ptr none=> .ptr none
 | .ptr (some (i',o))=>if i'=i then .bS (cs.drop o)else .ptr (some (i',o))
 | .bS l=> .bS l
 | .map r=> .map r
 | .func f a b=> .func f (fB i cs a) (fB i cs b)
 | .yield l=> .yield l
 | .nilFunc=> .nilFunc
 | .iface t v=> .iface t v
 | .nilIface=> .nilIface
def fB(i:Nat)(cs:List AV):List AV->List AV
 |[]=>[]
 |a::l=>dd i cs a::fB i cs l
end
theorem pW(i cs l):fB i cs l=l.map (dd i cs):=by
 induction l with
 |nil=>rfl
 |cons a l ih=>simp[fB,ih]
theorem Yt(sz:Nat):∀(k:Nat) (l:List AV),(rowsOf sz k l).length=k
 |0,_=>rfl
 |k+1,l=>by simp[rowsOf,Yt sz k]
theorem ajP{c:AV}(h:c.isAgg=false):c.cells=[c]:=by cases c<;>first|rfl|simp[AV.isAgg]at h
theorem Yu{sz:Nat}(hs:sz≠0):∀(k:Nat) (l:List AV),k*sz<=l.length->(∀c∈l,c.isAgg=false)->∀(j:Nat) (r:AV),(rowsOf sz k l)[j]? =some r->r.cells=(l.drop (j*sz)).take sz
 |0,l,_,_,j,r,e=>by simp[rowsOf]at e
 |k+1,l,hl,hc,j,r,e=>by
  rw[Nat.succ_mul]at hl;cases j with
  |zero=>
   simp only[rowsOf,List.getElem?_cons_zero,Option.some.injEq]at e;subst e;rw[Nat.zero_mul,List.drop_zero];split
   .rename_i h1;subst h1;cases l with
    |nil=>simp at hl
    |cons a l=>simpa using ajP (hc a (by simp))
   .rfl
  |succ j=>
   simp only[rowsOf,List.getElem?_cons_succ]at e;rw[Yu hs k (l.drop sz) (by rw[List.length_drop];omega) (fun c qt=>hc c (List.mem_of_mem_drop qt)) j r e,List.drop_drop];congr 2;rw[Nat.succ_mul];omega
theorem DS:∀(k:Nat) (l:List AV),k<=l.length->rowsOf 1 k l=l.take k
 |0,l,_=>by simp[rowsOf]
 |k+1,[],h=>by simp at h
 |k+1,a::l,h=>by simp[rowsOf,DS k l (by simpa using h)]
section
variable {P:Program} {Γ:GG} {G:Gh} {h:AH} {w:World} {N:Nat} {σ:Tm} {Q:Exit->Tm->AH->Prop}
theorem ajQ(hI:Inv Γ G h w){i b cs T}(hi:h[i]? =some (.row cs T))(hb:G.ρ i=some b)(vals):G.le (G.fixed b vals):=
 ⟨rfl,fun _ _ e=>e,fun c o v e=>by simp only[Gh.fixed];rw[if_neg (fun e'=>by subst e';exact hI.sep i c o v (by rw[hi];simp) hb e)];exact e,fun _ r e=>⟨r,e,Nat.le_refl _,fun _=>rfl⟩,fun _ _ e=>e,fun _ e=>e,fun b _ e _=>⟨b,e⟩⟩
theorem ajR{i b cs vals}(hle:G.le (G.fixed b vals))(hb:G.ρ i=some b)(hv:b9 G cs vals){a v}(h:VR G a v):VR (G.fixed b vals) (dd i cs a) v:=by
 induction h with
 |top v=>exact .top v
 |int k n=>exact .int k n
 |bool b=>exact .bool b
 |str s=>exact .str s
 |rj=>exact .rj
 | @ptr i' b' o h0=>
  rw[dd];split
  .rename_i hc;subst hc;rw[hb]at h0;cases h0;have yW:∀(k:Nat) (c:AV),(cs.drop o)[k]? =some c->cs[o+k]? =some c:=fun k c e=>by rwa [List.getElem?_drop]at e
   refine .bS (fun k=>vals.getD (o+k) undef) (fun k c e=>?_) (fun k c e=>?_)
   .obtain⟨u,q1,_⟩:=hv.get (yW k c e);simp only[Gh.fixed,if_true,Array.getD_eq_getD_getElem?,q1,Option.getD_some]
   .obtain⟨u,q1,q2⟩:=hv.get (yW k c e);simp only[Array.getD_eq_getD_getElem?,q1,Option.getD_some];exact q2.mono hle
  .exact .ptr (hle.ρ _ _ h0)
 |bS ws hF oa _=>exact(VR.bS ws hF oa).mono hle
 | @sl rows own a cap sz ws jc iT cj hF oa cP ih=>
  have hg:∀(k:Nat) (r:AV),(fB i cs rows)[k]? =some r->∃r0,rows[k]? =some r0/\r=dd i cs r0:=fun k r e=>by rw[pW,List.getElem?_map]at e;grind
  have ajS:∀r0:AV,(dd i cs r0).cells=r0.cells.map (dd i cs):=fun r0=>by
   cases r0<;>first
    |rfl
    |(simp[dd,AV.cells,pW];done)
    |skip
   .rename_i q;rcases q with _|⟨i',o⟩
    .rfl
    .have e1:(AV.ptr (some (i',o))).cells=[.ptr (some (i',o))]:=rfl;rw[e1,List.map_cons,List.map_nil,dd];by_cases hc:i'=i
     .rw[if_pos hc];rfl
     .rw[if_neg hc];rfl
   .rename_i i' off len cap sz;have e1:(AV.ms i' off len cap sz).cells=[.ms i' off len cap sz]:=rfl;rw[e1,List.map_cons,List.map_nil,dd];by_cases hc:i'=i/\tQ cs off len cap sz=true
    .rw[if_pos hc];rfl
    .rw[if_neg hc];rfl
  have hl:(fB i cs rows).length=rows.length:=by rw[pW];simp
  rw[dd,<-hl];refine VR.sl (sz:=sz) ws (by rw[hl];exact jc) iT (fun k r e=>?_) (fun k r j c e e'=>?_) (fun k r j c e e'=>?_) ?_
  .grind
  .obtain⟨r0,h0,rfl⟩:=hg k r e;rw[ajS,List.getElem?_map]at e';obtain⟨c0,h1,rfl⟩:=Option.map_eq_some_iff.1 e';obtain⟨b',o,q1,q2⟩:=hF k r0 j c0 h0 h1;exact⟨b',o,q1,hle.F _ _ _ q2⟩
  .obtain⟨r0,h0,rfl⟩:=hg k r e;grind
  .have:=cP.mono hle;cases own with
   |free=>trivial
   |full=>show cap=(fB i cs rows).length;rw[hl];exact this
   |bN j=>
    obtain⟨r,k1,k2,k3⟩:=this;refine⟨r,k1,by rw[hl];exact k2,fun e=>?_⟩;grind
 | @ms i' b' off len cap sz h0=>
  rw[dd];split
  .rename_i hc;obtain⟨rfl,eD⟩:=hc;rw[hb]at h0;cases h0;simp only[tQ,Bool.and_eq_true,decide_eq_true_eq,bne_iff_ne,List.all_eq_true,Bool.not_eq_true']at eD;obtain⟨⟨⟨h1,h2⟩,h3⟩,h4⟩:=eD;have hlen:=Yt sz len (cs.drop off);have nB:=Yu h3 len (cs.drop off) (by rw[List.length_drop];omega) (fun c hc=>h4 c (List.mem_of_mem_drop hc));have yW:∀(k:Nat) (r:AV) (j:Nat) (c:AV),(rowsOf sz len (cs.drop off))[k]? =some r->r.cells[j]? =some c->cs[off+k*sz+j]? =some c:=fun k r j c e e'=>by grind
   have key:=VR.sl (G:=G.fixed b vals) (rows:=rowsOf sz len (cs.drop off)) (own:= .free) (a:=some ⟨b,off,none⟩) (cap:=cap) (sz:=sz) (fun k j=>vals.getD (off+k*sz+j) undef) (by rw[hlen];exact h2) (fun e=>by cases e) (fun k r e=>by
     have hk:k<len:=by have:=(List.getElem?_eq_some_iff.1 e).1;rwa [hlen]at this
     rw[nB k r e,List.length_take,List.length_drop,List.length_drop];have:(k+1)*sz<=len*sz:=Nat.mul_le_mul_right _ hk;grind) (fun k r j c e e'=>by
     refine⟨b,off,rfl,?_⟩;obtain⟨u,q1,_⟩:=hv.get (yW k r j c e e');simp only[Gh.fixed,if_true,Array.getD_eq_getD_getElem?,q1,Option.getD_some]) (fun k r j c e e'=>by
     obtain⟨u,q1,q2⟩:=hv.get (yW k r j c e e');simp only[Array.getD_eq_getD_getElem?,q1,Option.getD_some];exact q2.mono hle) trivial
   rw[hlen]at key;exact key
  .exact .ms h0
 |rm=>exact .rm
 |map h=>exact .map h
 |func hf hc h1 h2 ih1 ih2=>
  refine .func (by rw[pW];simpa using hf) (by rw[pW];simpa using hc) (fun j c e=>?_) (fun j c e=>?_)
  .rw[pW,List.getElem?_map]at e;grind
  .rw[pW,List.getElem?_map]at e;grind
 |yield h=>exact .yield h
 |nilFunc=>exact .nilFunc
 |iface t h _=>exact(VR.iface t h).mono hle
 |nilIface=>exact .nilIface
 |agg hl _ ih=>
  refine .agg (by rw[pW];simpa using hl) fun j c e=>?_;rw[pW,List.getElem?_map]at e;grind
 |tuple hl _ ih=>
  refine .tuple (by rw[pW];simpa using hl) fun j c e=>?_;rw[pW,List.getElem?_map]at e;grind
def jM(i:Nat)(cs:List AV)(h h':AH):Prop:=h'.length=h.length/\∀(j:Nat) (ob:cO),h'[j]? =some ob->(j=i/\ob= .frozen)\/(j≠i/\(h[j]? =some ob\/∃c0 T,h[j]? =some (.row c0 T)/\ob= .row (fB i cs c0) T))
theorem Inv.freeze(hI:Inv Γ G h w){i cs T}(hi:h[i]? =some (.row cs T)){h'}(hf:jM i cs h h'):
  ∃b vals,G.le (G.fixed b vals)/\Inv Γ (G.fixed b vals) h' w/\∀a v,VR G a v->VR (G.fixed b vals) (dd i cs a) v:=by
 obtain⟨b,vals,h1,h2,h3⟩:=hI.row hi;have hle:=ajQ hI hi h1 vals;have hV:=fun a v (hv:VR G a v)=>ajR (i:=i) hle h1 h3 hv;refine⟨b,vals,hle,?_,hV⟩;have hF:∀c o v,(G.fixed b vals).F c o=some v->(c=b/\vals[o]? =some v)\/(c≠b/\G.F c o=some v):=fun c o v e=>by simp only[Gh.fixed]at e;grind
 exact {
  below:=hI.below
  k_:=hI.k_
  kJ:=hI.kJ
  fix:=fun c o v e=>by
   rcases hF c o v e with⟨rfl,hv⟩|⟨_,hv⟩
   .rw[cell_of h2];exact hv
   .exact hI.fix c o v hv
  obj:=fun j ob e=>by
   rcases hf.2 j ob e with⟨_,rfl⟩|⟨_,e1|⟨c0,T0,e1,rfl⟩⟩
   .trivial
   .exact(hI.obj j ob e1).mono hle (fun _ _=>rfl) (fun _ h=>h) (fun h=>h)
   .obtain⟨b0,v0,k1,k2,k3⟩:=hI.row e1;refine⟨b0,v0,k1,k2,by rw[pW];simpa using k3.1,fun q c e=>?_⟩;rw[pW,List.getElem?_map]at e;obtain⟨c1,q1,rfl⟩:=Option.map_eq_some_iff.1 e;exact hV _ _ (k3.2 q c1 q1)
  ij:=fun j c e=>by rw[hf.1];exact hI.ij j c e
  jv:=fun j r e=>by rw[hf.1];exact hI.jv j r e
  inj:=hI.inj
  base:=hI.base
  sep:=fun j c o v hz e e'=>by
   have BM:j<h'.length:=by rw[hf.1];exact hI.ij j c e
   have ej:h'[j]? =some h'[j]:=List.getElem?_eq_getElem BM;rcases hf.2 j _ ej with⟨_,e1⟩|⟨qu,e1⟩
   .exact hz (ej.trans (by rw[e1]))
   .rcases hF c o v e' with⟨rfl,_⟩|⟨_,hv⟩
    .exact qu (hI.inj j i c e h1)
    .refine hI.sep j c o v (fun e2=>?_) e hv;grind
  jw:=fun j r c k sz T' e e'=>(hI.jw j r c k sz T' e e').mono (G':=G.fixed b vals) rfl rfl (fun o v hv=>by
   rcases hF c o v hv with⟨rfl,_⟩|⟨_,hv⟩
   .exact absurd h1 ((hI.jw j r c k sz T' e e').ρ i)
   .exact hv) (fun _ h=>h)
  kb:=hI.kb
  lp:=hI.lp
  jx:=hI.jx
  gu:=hI.gu
  kn:=fun g c e=>(hI.kn g c e).mono hle}
theorem az.freeze{f args R}(H:az P Γ f args h fun v h'=>∃i cs T h3,h'[i]? =some (.row cs T)/\jM i cs h' h3/\R (dd i cs v) h3):az P Γ f args h R:=
 ⟨H.1,fun G w vs hI hv=>(H.2 G w vs hI hv).mono fun e w' hr=>by obtain⟨v,G',av,h',h1,h2,h3,h4,i,cs,T,hh,k1,k2,k3⟩:=hr;obtain⟨b,vals,q1,q2,q3⟩:=h3.freeze k1 k2;exact⟨v,_,_,hh,h1,h2.trans q1,q2,q3 _ _ h4,k3⟩⟩
theorem bw.freeze{c i cs T h'}(hi:h[i]? =some (.row cs T))(hf:jM i cs h h')(H:bw P Γ N c Q (σ.map fun p=>(p.1,dd i cs p.2)) h'):bw P Γ N c Q σ h:=fun r G w a hr hI ht=>by
 obtain⟨b,vals,q1,q2,q3⟩:=hI.freeze hi hf;have hl:∀(σ:Tm) (j:Nat),lk (σ.map fun p=>(p.1,dd i cs p.2)) j=dd i cs (lk σ j):=fun σ j=>by
  induction σ with
  |nil=>rfl
  |cons p σ ih=>
   obtain⟨q,v⟩:=p;simp only[List.map_cons,lk];split
   .rfl
   .exact ih
 refine wpIn_mono (H r _ w a (fun l e=>by obtain⟨D,hD⟩:=hr l e;exact⟨D,hD⟩) q2 ⟨ht.1,fun j=>by rw[hl];exact q3 _ _ (ht.2 j)⟩) fun e a' w' hp=>?_;obtain⟨G2,As,h2,Ds,k1,k2,k3,k4,k5,k6,k7⟩:=hp;exact⟨G2,As,h2,Ds,q1.trans k1,k2,k3,k4,k5,k6,k7⟩
theorem jM.set{i cs T}(hi:h[i]? =some (.row cs T)):jM i cs h (h.set i .frozen):=by refine⟨by simp,fun j ob e=>?_⟩;grind
theorem jM.row{i j cs c0 T0 h'}(hf:jM i cs h h')(hj:j≠i)(e:h[j]? =some (.row c0 T0)):jM i cs h (h'.set j (.row (fB i cs c0) T0)):=by
 refine⟨by simp[hf.1],fun k ob ek=>?_⟩;rw[List.getElem?_set]at ek;split at ek
 .grind
 .exact hf.2 k ob ek
theorem bw.mark{c}(hN:N<=1000000)(H:bw P Γ N c Q ((1000000,.tuple [])::σ) h):bw P Γ N c Q σ h:=fun r G w a hr hI ht=>
 H r G w a hr hI ⟨ht.1,fun j=>by
  simp only[lk];split
  .rename_i hj;subst hj;have:a.tmps.getD 1000000 undef=undef:=by rw[Array.getD_eq_getD_getElem?,Array.getElem?_eq_none (by rw[ht.1];exact hN)];rfl
   rw[this];exact VR.undef G
  .exact ht.2 j⟩
theorem bw.Ry{c}(hN:N<=1000001)(H:bw P Γ N c Q ((1000001,.tuple [])::σ) h):bw P Γ N c Q σ h:=fun r G w a hr hI ht=>
 H r G w a hr hI ⟨ht.1,fun j=>by
  simp only[lk];split
  .rename_i hj;subst hj;have:a.tmps.getD 1000001 undef=undef:=by rw[Array.getD_eq_getD_getElem?,Array.getElem?_eq_none (by rw[ht.1];exact hN)];rfl
   rw[this];exact VR.undef G
  .exact ht.2 j⟩
end
def xF(ops:Array Oper):Nat->Array Bool->List (List Nat)
 |0,_=>[[]]
 |fuel+1,listed=>match Region.ready .any ops listed with
  |[]=>[[]]
  |r=>r.flatMap fun i=>(xF ops fuel (listed.setIfInBounds i true)).map (i::·)
theorem Y3{ops:Array Oper}:∀(fuel t:Nat) (listed:Array Bool),Region.linearise.go .any ops fuel t listed []∈xF ops fuel listed
 |0,t,listed=>by simp[Region.linearise.go,xF]
 |fuel+1,t,listed=>by
  simp only[Region.linearise.go];change (match(Region.ready .any ops listed)[t%(Region.ready .any ops listed).length]? with
   |some i=>Region.linearise.go .any ops fuel (t/(Region.ready .any ops listed).length) (listed.setIfInBounds i true) [i]
   |none=>[].reverse)∈_
  rw[xF];cases hr:Region.ready .any ops listed with
  |nil=>simp
  |cons x xs=>
   have dN:t%(x::xs).length<(x::xs).length:=Nat.mod_lt _ (by simp);rw[List.getElem?_eq_getElem dN];simp only[];rw[linearise_go_acc,List.reverse_singleton,List.singleton_append];exact List.mem_flatMap.2 ⟨_,List.getElem_mem dN,List.mem_map.2 ⟨_,Y3 fuel _ _,rfl⟩⟩
section
variable {P:Program} {Γ:GG} {G:Gh} {h:AH} {w:World} {N:Nat} {σ:Tm} {Q:Exit->Tm->AH->Prop}
theorem Nh{id ops}(hm:P.follows .mixedOrders=true)(hd:mi N ops=true)(H:∀l∈xF ops ops.size (Array.replicate ops.size false),ke P Γ ops.toList (fun σ h=>Q .normal σ h) (l.filterMap (ops[·]?)) σ h):
  bw P Γ N (.region id ops true) Q σ h:=fun r G w a hr hI ht=>by
 refine wpIn_mono (wpIn_region_draw (Q:=fA Γ N G a.defers (iP (fun σ h=>Q .normal σ h) fun _ _ _=>False)) fun t=>?_) fun e a' w' hp=>?_
 .simp only[Region.schedule,hm,Bool.true_or,if_true];refine Xa _ σ h G _ a (fun i _ o ho x hx=>?_) (Gh.le.refl G) (hI.later (Nat.le_refl _) rfl rfl rfl (fun _ _=>rfl)) ht rfl (H _ (Y3 _ t _));have:=List.all_eq_true.1 hd o (by simpa using Array.mem_of_getElem? ho);simp_all
 .refine hp.mono fun e σ h hq=>?_;cases e<;>first|exact hq|exact hq.elim
theorem Y4{id ops}(L)(hL:xF ops ops.size (Array.replicate ops.size false)=L)(hm:P.follows .mixedOrders=true)(hd:mi N ops=true)(H:∀l∈L,ke P Γ ops.toList (fun σ h=>Q .normal σ h) (l.filterMap (ops[·]?)) σ h):
  bw P Γ N (.region id ops true) Q σ h:=Nh hm hd (by rw[hL];exact H)
theorem akc{g ps assign body gf first iQ}(hg:ev Γ σ g= .func gf first iQ)
  (H:az P Γ gf (first++[.yield h.length]++iQ) (h++[.loop .ready none ⟨N,σ,ps,assign,body,none⟩]) fun _ h'=>∃h2 st pe l,h'=h2++ .loop st pe ⟨N,σ,ps,assign,body,none⟩::l/\h2.length=h.length/\(∀(i:Nat) (ob),(h2++ .dead::l)[i]? =some ob->h[i]? =some ob\/∀st pe li,ob≠ .loop st pe li)/\st≠ .busy/\uK P Γ N Q σ (h2++ .dead::l) pe):
  bw P Γ N (.rangeFunc g ps assign body) Q σ h:=fun r G w a hr hI ht=>by
 have sM:=oH hI ht g;rw[hg]at sM;generalize qm:a.eval g=vf at sM;cases sM with
 |func f1 f2 f3 f4=>
 rename_i mj ml;obtain⟨np,qn⟩:=H;refine wpIn_rangeFunc fun fn _=>?_;obtain⟨D,marks,w1,b,G1,jf,vZ,hle,⟨fI,jH,qq⟩,hmarks⟩:∃(D:Nat) (marks:List Nat) (w1:World) (b:Nat) (G1:Gh),
   (Instr.enterLoop fn a.tmps ps assign body r).run P w= .ok (b,marks.map mark) w1/\
   Inv Γ G1 (h++[.loop .ready none ⟨N,σ,ps,assign,body,none⟩]) w1/\G.le G1/\(G1.ρ h.length=some b/\G1.bJ b=some D/\G.bJ b=none)/\
   ((marks=[]/\∃x,G.bJ x=some D)\/(marks=[D]/\¬G.ds D/\∀x,G1.bJ x=some D->x=b)):=by
  have xm:∀(G0:Gh) (b D:Nat),G0.ρ=G.ρ->G0.F=G.F->G0.ar=G.ar->G0.w0=G.w0->G0.bJ=G.bJ->(∀x,G.ds x->G0.ds x)->G.bJ b=none->((∃x,G.bJ x=some D)\/¬G.ds D)->G.le (G0.loop h.length b D):=
   fun G0 b D e1 e2 e3 e4 e5 e6 e7 e8=>⟨e4,fun i c e=>by
     have:=hI.ij i c e;simp only[Gh.loop,Gh.add,e1];rw[if_neg (by omega)];exact e,fun b o v e=>by simp only[Gh.loop,Gh.add,e2];exact e,fun i r e=>⟨r,by simp only[Gh.loop,Gh.add,e3];exact e,Nat.le_refl _,fun _=>rfl⟩,fun x D' e=>by
     simp only[Gh.loop,e5];grind,e6,fun x D' e ed=>by
     simp only[Gh.loop,e5]at e;grind⟩
  cases r with
  |none=>
   have h1:=hI.MU;have h2:=h1.Ce {state:= .ready,pending:=none,fn:=fn,tmps:=a.tmps,params:=ps,assign:=assign,body:=body,defers:=w.heap.size} (.inr rfl) rfl rfl (li:=⟨N,σ,ps,assign,body,none⟩) rfl rfl rfl
    ⟨ht.1,fun i=>by refine VR.same (G:=G) ?_ ?_ ?_ (ht.2 i)<;>rfl⟩ (fun f e=>by cases e)
   simp only[World.size_alloc]at h2;refine⟨w.heap.size,[w.heap.size],_,w.heap.size+1,_,run_enterLoop_outer fn a.tmps ps assign body,h2,?_,⟨Gh.add_same _ _ _,by simp[Gh.loop],hI.qw (by omega)⟩,.inr ⟨rfl,hI.vY (Nat.le_refl _),fun x hx=>?_⟩⟩
   .exact xm _ _ _ rfl rfl rfl rfl rfl (fun _ h=> .inl h) (hI.qw (by omega)) (.inr (hI.vY (Nat.le_refl _)))
   .simp only[Gh.loop]at hx;split at hx
    .assumption
    .obtain⟨l,_,_,k⟩:=hI.lp x _ hx;exact absurd k (hI.vY (Nat.le_refl _))
  |some l0=>
   obtain⟨D,hD⟩:=hr l0 rfl;obtain⟨r0,k1,k2,k3⟩:=hI.lp l0 D hD;have h2:=hI.Ce {state:= .ready,pending:=none,fn:=fn,tmps:=a.tmps,params:=ps,assign:=assign,body:=body,defers:=r0.defers} (by rw[k2];exact k3) rfl rfl (li:=⟨N,σ,ps,assign,body,none⟩) rfl rfl rfl ht (fun f e=>by cases e);refine⟨r0.defers,[],_,w.heap.size,_,run_enterLoop_inner k1 fn a.tmps ps assign body,h2,?_,⟨Gh.add_same _ _ _,by simp[Gh.loop],hI.qw (Nat.le_refl _)⟩,.inl ⟨rfl,l0,by rw[k2];exact hD⟩⟩;exact xm _ _ _ rfl rfl rfl rfl rfl (fun _ h=>h) (hI.qw (Nat.le_refl _)) (.inl ⟨l0,by rw[k2];exact hD⟩)
 have ql:b9 G1 (first++[.yield h.length]++iQ) ((mj++ #[.func (.yield b) #[] #[]])++ml):=
  b9.append (b9.append ((show b9 G first mj from⟨f1,f3⟩).mono hle) (b9.one (VR.yield fI))) ((show b9 G iQ ml from⟨f2,f4⟩).mono hle)
 refine⟨b,marks.map mark,w1,{target:= .fn (.func gf) ml,args:=mj++ #[.func (.yield b) #[] #[]]},w1,gf,(mj++ #[.func (.yield b) #[] #[]])++ml,w1,jf,?_,fun _ _=>trivial,?_,fun e=>by simp[Fr]at e,?_⟩
 .simp only[resolve,qm];simp[Deferred.ofValue,Act.eval]
 .simp[invoke,np]
 refine CallsIn.mono (w7.2 (qn G1 w1 _ vZ ql)) fun e w3 oN=>?_;obtain⟨v,G2,av,h',rfl,k1,k2,_,h2,st,pe,l,rfl,hlen,yP,fC,xq⟩:=oN;have hL:(h2++ .loop st pe ⟨N,σ,ps,assign,body,none⟩::l)[h.length]? =some (.loop st pe ⟨N,σ,ps,assign,body,none⟩):=by rw[<-hlen];simp
 obtain⟨b',l3,m1,m2,m3,m4,m5,m6,m7,m8,m9,m10⟩:=k2.obj h.length _ hL;have xr:=k1.ρ _ _ fI;rw[xr]at m1;cases m1;refine⟨l3.pending,_,run_endLoop m2 (by rw[m3];exact fC),?_⟩;have lb:=Jb (w:=w3) (o:= .loop {l3 with state:= .exhausted}) (uj m2);have hA:=k2.write (w':=w3.putObj b (.loop {l3 with state:= .exhausted})) xr putObj_size rfl rfl rfl (fun k hk=>World.putObj_heap_other hk) .dead trivial (fun D0 Rr=>by grind) (by rw[m2];simp) (by rw[hL];simp);rw[<-hlen,List.set_append_right _ _ (Nat.le_refl _),Nat.sub_self,List.set_cons_zero]at hA;have gM:=hle.trans k1;obtain⟨del,Rs,xv,DO⟩:∃del:Nat->Prop,del b/\(∀x,(G.bJ x).isSome=true->¬del x)/\∀D0∈marks,¬G.ds D0/\G2.ds D0/\∀x,G2.bJ x=some D0->del x:=by
  have tF:G2.ds D:=by obtain⟨_,_,_,k⟩:=vZ.lp b D jH;exact k1.ds D k
  rcases hmarks with⟨rfl,_⟩|⟨rfl,n1,n2⟩
  .refine⟨fun x=>x=b,rfl,fun x hx e=>?_,fun D0 h0=>by cases h0⟩;subst e;rw[qq]at hx;cases hx
  .refine⟨fun x=>x=b\/G2.bJ x=some D,.inl rfl,fun x hx e=>?_,fun D0 h0=>?_⟩
   .rcases e with rfl|e
    .rw[qq]at hx;cases hx
    .cases nh:G.bJ x with
     |none=>rw[nh]at hx;cases hx
     |some D'=>
      have:=gM.bJ x D' nh;rw[e]at this;cases this;obtain⟨_,_,_,k⟩:=hI.lp x D nh;exact n1 k
   grind
 have iF:marks.Nodup:=by grind
 open Classical in
 have hC:=hA.DN (fun x=>if del x then none else G2.bJ x) G2.ds (fun i st pe li c l e dI hl oh=>by
   rcases yP i _ e with e|e
   .obtain⟨c',l',q1,q2,q3,q4,q5,q6,q7,q8,q9,MW⟩:=hI.obj i _ e;have:=gM.ρ i c' q1;rw[dI]at this;cases this;rw[if_neg (xv c (by rw[q9];rfl))];exact oh
   .exact absurd rfl (e st pe li))
  (fun x D0 e=>by
   split at e
   .cases e
   .obtain⟨l,q1,q2,q3⟩:=hA.lp x D0 e;exact⟨⟨l,q1,q2,q3⟩,hA.jx x D0 e⟩)
  hA.gu
 open Classical in
 have xx:G.le {G2 with bJ:=fun x=>if del x then none else G2.bJ x,ds:=G2.ds}:=
  ⟨gM.w0,gM.ρ,gM.F,gM.ar,fun x D0 e=>by
   show(if del x then none else G2.bJ x)=some D0;rw[if_neg (xv x (by rw[e];rfl))];exact gM.bJ x D0 e,gM.ds,fun x D0 e ed=>by
   have e':(if del x then none else G2.bJ x)=some D0:=e;split at e'
   .cases e'
   .exact gM.ym x D0 e' ed⟩
 have xy:∀G':Gh,G'.ρ=G2.ρ->G'.F=G2.F->G'.ar=G2.ar->TR N G' σ a.tmps:=fun G' e1 e2 e3=>
  ⟨ht.1,fun i=>VR.same e1 e2 e3 ((ht.2 i).mono gM)⟩
 have nG:∀(G':Gh),G'.ds=G2.ds->(∀x,G'.bJ x=if del x then none else G2.bJ x)->∀D0∈marks,¬G.ds D0/\G'.ds D0/\∀x,G'.bJ x≠some D0:=fun G' e1 e2 D0 h0=>by
  obtain⟨q1,q2,q3⟩:=DO D0 h0;refine⟨q1,by rw[e1];exact q2,fun x e=>?_⟩;rw[e2]at e;split at e
  .cases e
  .rename_i hn;exact hn (q3 x e)
 generalize w3.putObj b (.loop {l3 with state:= .exhausted})=W at hC|-;rw[m4];cases pe with
 |none=>exact⟨_,σ,h2++ .dead::l,marks,xx,hC,xy _ rfl rfl rfl,rfl,nG _ rfl (fun _=>rfl),iF,xq⟩
 |some c=>exact bw.after (show bw P Γ N c Q σ (h2++ .dead::l)from xq) hr xx (nG _ rfl (fun _=>rfl)) iF hC (a:={a with defers:=marks.map mark++a.defers}) (xy _ rfl rfl rfl) rfl
theorem RQ{g ps assign body gf first iQ}(hg:ev Γ σ g= .func gf first iQ)
  (H:∀li,li=⟨N,σ,ps,assign,body,none⟩->az P Γ gf (first++[.yield h.length]++iQ) (h++[.loop .ready none li]) fun _ h'=>∃h2 st pe l,h'=h2++ .loop st pe li::l/\h2.length=h.length/\(∀(i:Nat) (ob),(h2++ .dead::l)[i]? =some ob->h[i]? =some ob\/∀st pe li,ob≠ .loop st pe li)/\st≠ .busy/\uK P Γ N Q σ (h2++ .dead::l) pe):
  bw P Γ N (.rangeFunc g ps assign body) Q σ h:=akc hg (H _ rfl)
theorem Ni{L N' fo li σ' ps assign body args R}(e:li=⟨N',σ',ps,assign,body,fo⟩)(hL:h[L]? =some (.loop .ready none li))(hN:FV N' ps=true)(hlen:ps.toList.length=args.length)
  (hm:P.follows .mixedOrders=true)(kz:gW N' assign=true)
  (H:fO P Γ N' assign (iP (fun σ h'=>h'[L]? =some (.loop .ready none li)/\bw P Γ N' body (Cd L li R) σ (h'.set L (.loop .busy none li))) fun _ _ _=>False) (qv ps.toList args σ') h):rD P Γ L args h R:=by
 subst e;refine Yq hL (fun p hp=>?_) hlen ((tL hm _ _ _ _ kz H).mono fun e σ h he=>?_)
 .simp only[FV,List.all_eq_true]at hN;simp_all
 omega
end
section
variable {P:Program} {Γ:GG} {G:Gh} {h:AH} {w:World} {N:Nat} {σ σ':Tm} {Q:Exit->Tm->AH->Prop} {ops:Array Oper}
end
section
variable {P:Program} {Γ:GG} {h:AH} {N:Nat} {σ:Tm} {Q:Exit->Tm->AH->Prop}
theorem y2{α β c}(xs L)(st:List α->β->Tm)(hp inv b0)(h1:keep L σ=st [] b0)(h2:h=hp b0)(h3:inv [] xs b0)
  (H1:∀ae x r b,xs=ae++x::r->inv ae (x::r) b->bw P Γ N c (DP L st hp inv ae x r Q) (st ae b) (hp b))
  (H0:∀b,inv xs [] b->bw P Γ N c (DQ Q) (st xs b) (hp b)):bw P Γ N (.loop c) Q σ h:=by
 refine Iw (fun n σ h=>∃ae rest b,n=rest.length/\xs=ae++rest/\inv ae rest b/\yE (keep L σ) (st ae b)/\h=hp b) ⟨[],xs,b0,rfl,rfl,h3,.of_eq h1,h2⟩ fun n σ h hx=>?_;obtain⟨ae,rest,b,rfl,iX,hi,hs,rfl⟩:=hx;refine bw.keep L (bw.Ix ?_ hs);cases rest with
 |nil=>
  rw[List.append_nil]at iX;subst iX;refine(H0 b hi).mono fun e σ h he=>?_;cases e with
  |normal=>exact he.elim
  |_=>exact he
 |cons x r=>
  refine(H1 ae x r b iX hi).mono fun e σ h he=>?_;cases e with
  |normal=>
   obtain⟨b',k1,k2,k3⟩:=he;exact⟨r.length,by simp,ae++[x],r,b',rfl,by simp[iX],k1,k2,k3⟩
  |_=>exact he
end
def AV.Y5:AV->Bool
 | .func .. =>true
 | .yield _=>true
 |_=>false
structure Kept(b:Nat)(h h':AH):Prop where
 len:h.length<=h'.length
 fn:∀(i:Nat) (c:AV) (T:TypeId),b<=i->c.Y5=true->h[i]? =some (.row [c] T)->h'[i]? =some (.row [c] T)
 lp:∀(i:Nat) (st:LoopState) (pe:Option Code) (li:LI),b<=i->(h[i]? =some (.loop st pe li)<->h'[i]? =some (.loop st pe li))
 cZ:∀(i:Nat) (st:LoopState) (pe:Option Code) (li:LI),h'[i]? =some (.loop st pe li)->∃qA qB li0,h[i]? =some (.loop qA qB li0)
theorem Kept.refl(b h):Kept b h h:=⟨Nat.le_refl _,fun _ _ _ _ _ e=>e,fun _ _ _ _ _=>Iff.rfl,fun _ _ _ _ e=>⟨_,_,_,e⟩⟩
theorem Kept.trans{b h h1 h2}(x:Kept b h h1)(y:Kept b h1 h2):Kept b h h2:=
 ⟨Nat.le_trans x.len y.len,fun i c T hb hf e=>y.fn i c T hb hf (x.fn i c T hb hf e),fun i st pe li hb=>(x.lp i st pe li hb).trans (y.lp i st pe li hb),fun i st pe li e=>by obtain⟨a,b,c,e⟩:=y.cZ i st pe li e;exact x.cZ i a b c e⟩
def fk(j:AH):Prop:=∀ob∈j,∀st pe li,ob≠ .loop st pe li
theorem Kept.app(b h){l}(hl:fk l):Kept b h (h++l):=
 ⟨by simp,fun i c T _ _ e=>by grind,fun i st pe li _=>by
  by_cases hi:i<h.length
  .rw[List.getElem?_append_left hi]
  .rw[List.getElem?_eq_none (by omega),List.getElem?_append_right (by omega)];constructor
   .intro e;cases e
   .intro e;exact absurd rfl (hl _ (List.mem_of_getElem? e) st pe li),fun i st pe li e=>by
  by_cases hi:i<h.length
  .grind
  .rw[List.getElem?_append_right (by omega)]at e;exact absurd rfl (hl _ (List.mem_of_getElem? e) st pe li)⟩
def nP(b:Nat)(h h':AH):Prop:=h.length<=h'.length/\∀(i:Nat) (ob:cO),h[i]? =some ob->h'[i]? =some ob\/(b<=i/\∃st pe li,ob= .loop st pe li)
theorem nP.app(b h l):nP b h (h++l):=⟨by simp,fun i ob e=> .inl (by grind)⟩
theorem nP.set{b i h st pe li}(hb:b<=i)(e:h[i]? =some (.loop st pe li))(ob):nP b h (h.set i ob):=⟨by simp,fun k o ek=>by grind⟩
theorem nP.split{K j h'}(hf:nP K.length (K++j) h'):∃j',h'=K++j'/\j.length<=j'.length/\∀(i:Nat) (ob),j[i]? =some ob->j'[i]? =some ob\/∃st pe li,ob= .loop st pe li:=by
 obtain⟨h1,h2⟩:=hf;rw[List.length_append]at h1;have e:h'.take K.length=K:=by
  refine List.ext_getElem? fun i=>?_;rw[List.getElem?_take];split
  .grind
  grind
 refine⟨h'.drop K.length,?_,by simp;omega,fun i ob ei=>?_⟩
 .conv=>rhs;lhs;rw[<-e]
  rw[List.take_append_drop]
 grind
def RR(h h':AH):Prop:=∃l,fk l/\h'=h++l
theorem RR.RS{h h'}(H:RR h h')(b):nP b h h':=by obtain⟨l,_,rfl⟩:=H;exact .app b h l
section
variable {P:Program} {Γ:GG} {h:AH} {w:World} {N:Nat} {σ:Tm} {Q:Exit->Tm->AH->Prop}
theorem akd{g ps assign body gf first iQ}(hg:ev Γ σ g= .func gf first iQ)
  (H:az P Γ gf (first++[.yield h.length]++iQ) (h++[.loop .ready none ⟨N,σ,ps,assign,body,none⟩]) fun _ h'=>∃h2 st pe l,h'=h2++ .loop st pe ⟨N,σ,ps,assign,body,none⟩::l/\h2.length=h.length/\(∀(i:Nat) (st) (pe) (li),(h2++ .dead::l)[i]? =some (.loop st pe li)->∃qA qB li0,h[i]? =some (.loop qA qB li0))/\st≠ .busy/\uK P Γ N Q σ (h2++ .dead::l) pe):
  bw P Γ N (.rangeFunc g ps assign body) Q σ h:=fun r G w a hr hI ht=>by
 have sM:=oH hI ht g;rw[hg]at sM;generalize qm:a.eval g=vf at sM;cases sM with
 |func f1 f2 f3 f4=>
 rename_i mj ml;obtain⟨np,qn⟩:=H;refine wpIn_rangeFunc fun fn _=>?_;obtain⟨D,marks,w1,b,G1,jf,vZ,hle,⟨fI,jH,qq⟩,hmarks⟩:∃(D:Nat) (marks:List Nat) (w1:World) (b:Nat) (G1:Gh),
   (Instr.enterLoop fn a.tmps ps assign body r).run P w= .ok (b,marks.map mark) w1/\
   Inv Γ G1 (h++[.loop .ready none ⟨N,σ,ps,assign,body,none⟩]) w1/\G.le G1/\(G1.ρ h.length=some b/\G1.bJ b=some D/\G.bJ b=none)/\
   ((marks=[]/\∃x,G.bJ x=some D)\/(marks=[D]/\¬G.ds D/\∀x,G1.bJ x=some D->x=b)):=by
  have xm:∀(G0:Gh) (b D:Nat),G0.ρ=G.ρ->G0.F=G.F->G0.ar=G.ar->G0.w0=G.w0->G0.bJ=G.bJ->(∀x,G.ds x->G0.ds x)->G.bJ b=none->((∃x,G.bJ x=some D)\/¬G.ds D)->G.le (G0.loop h.length b D):=
   fun G0 b D e1 e2 e3 e4 e5 e6 e7 e8=>⟨e4,fun i c e=>by
     have:=hI.ij i c e;simp only[Gh.loop,Gh.add,e1];rw[if_neg (by omega)];exact e,fun b o v e=>by simp only[Gh.loop,Gh.add,e2];exact e,fun i r e=>⟨r,by simp only[Gh.loop,Gh.add,e3];exact e,Nat.le_refl _,fun _=>rfl⟩,fun x D' e=>by
     simp only[Gh.loop,e5];grind,e6,fun x D' e ed=>by
     simp only[Gh.loop,e5]at e;grind⟩
  cases r with
  |none=>
   have h1:=hI.MU;have h2:=h1.Ce {state:= .ready,pending:=none,fn:=fn,tmps:=a.tmps,params:=ps,assign:=assign,body:=body,defers:=w.heap.size} (.inr rfl) rfl rfl (li:=⟨N,σ,ps,assign,body,none⟩) rfl rfl rfl
    ⟨ht.1,fun i=>by refine VR.same (G:=G) ?_ ?_ ?_ (ht.2 i)<;>rfl⟩ (fun f e=>by cases e)
   simp only[World.size_alloc]at h2;refine⟨w.heap.size,[w.heap.size],_,w.heap.size+1,_,run_enterLoop_outer fn a.tmps ps assign body,h2,?_,⟨Gh.add_same _ _ _,by simp[Gh.loop],hI.qw (by omega)⟩,.inr ⟨rfl,hI.vY (Nat.le_refl _),fun x hx=>?_⟩⟩
   .exact xm _ _ _ rfl rfl rfl rfl rfl (fun _ h=> .inl h) (hI.qw (by omega)) (.inr (hI.vY (Nat.le_refl _)))
   .simp only[Gh.loop]at hx;split at hx
    .assumption
    .obtain⟨l,_,_,k⟩:=hI.lp x _ hx;exact absurd k (hI.vY (Nat.le_refl _))
  |some l0=>
   obtain⟨D,hD⟩:=hr l0 rfl;obtain⟨r0,k1,k2,k3⟩:=hI.lp l0 D hD;have h2:=hI.Ce {state:= .ready,pending:=none,fn:=fn,tmps:=a.tmps,params:=ps,assign:=assign,body:=body,defers:=r0.defers} (by rw[k2];exact k3) rfl rfl (li:=⟨N,σ,ps,assign,body,none⟩) rfl rfl rfl ht (fun f e=>by cases e);refine⟨r0.defers,[],_,w.heap.size,_,run_enterLoop_inner k1 fn a.tmps ps assign body,h2,?_,⟨Gh.add_same _ _ _,by simp[Gh.loop],hI.qw (Nat.le_refl _)⟩,.inl ⟨rfl,l0,by rw[k2];exact hD⟩⟩;exact xm _ _ _ rfl rfl rfl rfl rfl (fun _ h=>h) (hI.qw (Nat.le_refl _)) (.inl ⟨l0,by rw[k2];exact hD⟩)
 have ql:b9 G1 (first++[.yield h.length]++iQ) ((mj++ #[.func (.yield b) #[] #[]])++ml):=
  b9.append (b9.append ((show b9 G first mj from⟨f1,f3⟩).mono hle) (b9.one (VR.yield fI))) ((show b9 G iQ ml from⟨f2,f4⟩).mono hle)
 refine⟨b,marks.map mark,w1,{target:= .fn (.func gf) ml,args:=mj++ #[.func (.yield b) #[] #[]]},w1,gf,(mj++ #[.func (.yield b) #[] #[]])++ml,w1,jf,?_,fun _ _=>trivial,?_,fun e=>by simp[Fr]at e,?_⟩
 .simp only[resolve,qm];simp[Deferred.ofValue,Act.eval]
 .simp[invoke,np]
 refine CallsIn.mono (w7.2 (qn G1 w1 _ vZ ql)) fun e w3 oN=>?_;obtain⟨v,G2,av,h',rfl,k1,k2,_,h2,st,pe,l,rfl,hlen,yP,fC,xq⟩:=oN;have hL:(h2++ .loop st pe ⟨N,σ,ps,assign,body,none⟩::l)[h.length]? =some (.loop st pe ⟨N,σ,ps,assign,body,none⟩):=by rw[<-hlen];simp
 obtain⟨b',l3,m1,m2,m3,m4,m5,m6,m7,m8,m9,m10⟩:=k2.obj h.length _ hL;have xr:=k1.ρ _ _ fI;rw[xr]at m1;cases m1;refine⟨l3.pending,_,run_endLoop m2 (by rw[m3];exact fC),?_⟩;have lb:=Jb (w:=w3) (o:= .loop {l3 with state:= .exhausted}) (uj m2);have hA:=k2.write (w':=w3.putObj b (.loop {l3 with state:= .exhausted})) xr putObj_size rfl rfl rfl (fun k hk=>World.putObj_heap_other hk) .dead trivial (fun D0 Rr=>by grind) (by rw[m2];simp) (by rw[hL];simp);rw[<-hlen,List.set_append_right _ _ (Nat.le_refl _),Nat.sub_self,List.set_cons_zero]at hA;have gM:=hle.trans k1;obtain⟨del,Rs,xv,DO⟩:∃del:Nat->Prop,del b/\(∀x,(G.bJ x).isSome=true->¬del x)/\∀D0∈marks,¬G.ds D0/\G2.ds D0/\∀x,G2.bJ x=some D0->del x:=by
  have tF:G2.ds D:=by obtain⟨_,_,_,k⟩:=vZ.lp b D jH;exact k1.ds D k
  rcases hmarks with⟨rfl,_⟩|⟨rfl,n1,n2⟩
  .refine⟨fun x=>x=b,rfl,fun x hx e=>?_,fun D0 h0=>by cases h0⟩;subst e;rw[qq]at hx;cases hx
  .refine⟨fun x=>x=b\/G2.bJ x=some D,.inl rfl,fun x hx e=>?_,fun D0 h0=>?_⟩
   .rcases e with rfl|e
    .rw[qq]at hx;cases hx
    .cases nh:G.bJ x with
     |none=>rw[nh]at hx;cases hx
     |some D'=>
      have:=gM.bJ x D' nh;rw[e]at this;cases this;obtain⟨_,_,_,k⟩:=hI.lp x D nh;exact n1 k
   grind
 have iF:marks.Nodup:=by grind
 open Classical in
 have hC:=hA.DN (fun x=>if del x then none else G2.bJ x) G2.ds (fun i st pe li c l e dI hl oh=>by obtain⟨qA,qB,li0,e⟩:=yP i st pe li e;obtain⟨c',l',q1,q2,q3,q4,q5,q6,q7,q8,q9,MW⟩:=hI.obj i _ e;have:=gM.ρ i c' q1;rw[dI]at this;cases this;rw[if_neg (xv c (by rw[q9];rfl))];exact oh)
  (fun x D0 e=>by
   split at e
   .cases e
   .obtain⟨l,q1,q2,q3⟩:=hA.lp x D0 e;exact⟨⟨l,q1,q2,q3⟩,hA.jx x D0 e⟩)
  hA.gu
 open Classical in
 have xx:G.le {G2 with bJ:=fun x=>if del x then none else G2.bJ x,ds:=G2.ds}:=
  ⟨gM.w0,gM.ρ,gM.F,gM.ar,fun x D0 e=>by
   show(if del x then none else G2.bJ x)=some D0;rw[if_neg (xv x (by rw[e];rfl))];exact gM.bJ x D0 e,gM.ds,fun x D0 e ed=>by
   have e':(if del x then none else G2.bJ x)=some D0:=e;split at e'
   .cases e'
   .exact gM.ym x D0 e' ed⟩
 have xy:∀G':Gh,G'.ρ=G2.ρ->G'.F=G2.F->G'.ar=G2.ar->TR N G' σ a.tmps:=fun G' e1 e2 e3=>
  ⟨ht.1,fun i=>VR.same e1 e2 e3 ((ht.2 i).mono gM)⟩
 have nG:∀(G':Gh),G'.ds=G2.ds->(∀x,G'.bJ x=if del x then none else G2.bJ x)->∀D0∈marks,¬G.ds D0/\G'.ds D0/\∀x,G'.bJ x≠some D0:=fun G' e1 e2 D0 h0=>by
  obtain⟨q1,q2,q3⟩:=DO D0 h0;refine⟨q1,by rw[e1];exact q2,fun x e=>?_⟩;rw[e2]at e;split at e
  .cases e
  .rename_i hn;exact hn (q3 x e)
 generalize w3.putObj b (.loop {l3 with state:= .exhausted})=W at hC|-;rw[m4];cases pe with
 |none=>exact⟨_,σ,h2++ .dead::l,marks,xx,hC,xy _ rfl rfl rfl,rfl,nG _ rfl (fun _=>rfl),iF,xq⟩
 |some c=>exact bw.after (show bw P Γ N c Q σ (h2++ .dead::l)from xq) hr xx (nG _ rfl (fun _=>rfl)) iF hC (a:={a with defers:=marks.map mark++a.defers}) (xy _ rfl rfl rfl) rfl
theorem ake{g ps assign body gf first iQ}(hg:ev Γ σ g= .func gf first iQ)
  (H:∀li,li=⟨N,σ,ps,assign,body,none⟩->az P Γ gf (first++[.yield h.length]++iQ) (h++[.loop .ready none li]) fun _ h'=>∃h2 st pe l,h'=h2++ .loop st pe li::l/\h2.length=h.length/\(∀(i:Nat) (st) (pe) (li),(h2++ .dead::l)[i]? =some (.loop st pe li)->∃qA qB li0,h[i]? =some (.loop qA qB li0))/\st≠ .busy/\uK P Γ N Q σ (h2++ .dead::l) pe):
  bw P Γ N (.rangeFunc g ps assign body) Q σ h:=akd hg (H _ rfl)
theorem Kept.mono{b b' h h'}(K:Kept b h h')(hb:b<=b'):Kept b' h h':=
 ⟨K.len,fun i c T hi=>K.fn i c T (Nat.le_trans hb hi),fun i st pe li hi=>K.lp i st pe li (Nat.le_trans hb hi),K.cZ⟩
theorem Kept.RT{b i h1 h2 s0 s1 p0 p1 li}(e1:h1[i]? =some (.loop s0 p0 li))(K:Kept b (h1.set i (.loop s1 p1 li)) h2):Kept b h1 (h2.set i (.loop s0 p0 li)):=by
 have hi:=(List.getElem?_eq_some_iff.1 e1).1;have hl:=K.len;rw[List.length_set]at hl;refine⟨by simpa using hl,fun k c T hb hf e=>?_,fun k st pe nQ hb=>?_,fun k st pe nQ e=>?_⟩
 .have mO:k≠i:=fun e'=>by subst e';rw[e1]at e;cases e
  rw[List.getElem?_set_ne (fun e'=>mO e'.symm)];exact K.fn k c T hb hf (by grind)
 .by_cases mO:k=i
  .grind
  .have:=K.lp k st pe nQ hb;grind
 .by_cases mO:k=i
  .subst mO;exact⟨_,_,_,e1⟩
  .rw[List.getElem?_set_ne (fun e'=>mO e'.symm)]at e;have:=K.cZ k st pe nQ e;grind
theorem Kept.Nk{b i h h' s s0 p p0 li li0}(K:Kept b h h')(hi:i<b)(e:h[i]? =some (.loop s0 p0 li0)):Kept b h (h'.set i (.loop s p li)):=by
 refine⟨by simpa using K.len,fun k c T hb hf e=>?_,fun k st pe nQ hb=>?_,fun k st pe nQ ek=>?_⟩
 .rw[List.getElem?_set_ne (by omega)];exact K.fn k c T hb hf e
 .rw[List.getElem?_set_ne (by omega)];exact K.lp k st pe nQ hb
 .by_cases mO:k=i
  .subst mO;exact⟨_,_,_,e⟩
  .rw[List.getElem?_set_ne (fun e'=>mO e'.symm)]at ek;exact K.cZ k st pe nQ ek
theorem Kept.setRow{b i h h' cs T}(K:Kept b h h')(hi:i<b):Kept b h (h'.set i (.row cs T)):=by
 refine⟨by simpa using K.len,fun k c T hb hf e=>?_,fun k st pe nQ hb=>?_,fun k st pe nQ ek=>?_⟩
 .rw[List.getElem?_set_ne (by omega)];exact K.fn k c T hb hf e
 .rw[List.getElem?_set_ne (by omega)];exact K.lp k st pe nQ hb
 .by_cases mO:k=i
  .grind
  .rw[List.getElem?_set_ne (fun e'=>mO e'.symm)]at ek;exact K.cZ k st pe nQ ek
theorem Kept.Y7{b h X h' s p li}(hX:fk X)(K:Kept b (h++X++[.loop s p li]) h'):Kept b h (h'.set (h++X).length .dead):=by
 have hl:=K.len;simp only[List.length_append,List.length_cons,List.length_nil]at hl;have oS:∀(k:Nat) (st:LoopState) (pe:Option Code) (nQ:LI),k≠(h++X).length->((h++X++[.loop s p li])[k]? =some (.loop st pe nQ)<->h[k]? =some (.loop st pe nQ)):=fun k st pe nQ hk=>by
  by_cases h1:k<h.length
  .grind
  .constructor
   .intro e;by_cases h2:k<(h++X).length
    .rw[List.getElem?_append_left h2,List.getElem?_append_right (by omega)]at e;exact absurd rfl (hX _ (List.mem_of_getElem? e) st pe nQ)
    grind
   grind
 refine⟨by simp;omega,fun k c T hb hf e=>?_,fun k st pe nQ hb=>?_,fun k st pe nQ e=>?_⟩
 .have hk:=(List.getElem?_eq_some_iff.1 e).1;rw[List.getElem?_set_ne (by simp;omega)];exact K.fn k c T hb hf (by grind)
 .by_cases mO:k=(h++X).length
  .grind
  .rw[List.getElem?_set_ne (fun e'=>mO e'.symm),<-K.lp k st pe nQ hb,oS k st pe nQ mO]
 .by_cases mO:k=(h++X).length
  .grind
  .rw[List.getElem?_set_ne (fun e'=>mO e'.symm)]at e;obtain⟨a1,a2,a3,e⟩:=K.cZ k st pe nQ e;grind
theorem Cm{hb h':AH}{st pe li li0}(hL:h'[hb.length]? =some (.loop st pe li))(hold:∀(i:Nat) (st) (pe) (li),h'[i]? =some (.loop st pe li)->∃qA qB lj,(hb++[.loop .ready none li0])[i]? =some (.loop qA qB lj))(fC:st≠ .busy)
  (H:uK P Γ N Q σ (h'.set hb.length .dead) pe):∃h2 st pe l,h'=h2++ .loop st pe li::l/\h2.length=hb.length/\(∀(i:Nat) (st) (pe) (li),(h2++ .dead::l)[i]? =some (.loop st pe li)->∃qA qB li0,hb[i]? =some (.loop qA qB li0))/\st≠ .busy/\uK P Γ N Q σ (h2++ .dead::l) pe:=by
 obtain⟨hl,hg⟩:=List.getElem?_eq_some_iff.1 hL;have e1:h'=h'.take hb.length++ .loop st pe li::h'.drop (hb.length+1):=by conv=>lhs;rw[<-List.take_append_drop hb.length h',List.drop_eq_getElem_cons hl,hg]
 have e2:h'.set hb.length .dead=h'.take hb.length++ .dead::h'.drop (hb.length+1):=List.set_eq_take_append_cons_drop .. |>.trans (by rw[if_pos hl]);refine⟨_,st,pe,_,e1,by simp;omega,fun i st' pe' nQ e=>?_,fC,by rw[<-e2];exact H⟩;grind
end
def jN(u:Value):List PanicEntry:=[{v:=u,recovered:=false}]
def jO(B:Nat)(h:AH):AH:=h.take B++List.replicate (h.length-B) .frozen
theorem y3(B h):(jO B h).length=h.length:=by simp[jO];omega
theorem AB{B i h}(hi:i<B):(jO B h)[i]? =h[i]? :=by unfold jO;grind
theorem F6{B i h ob}(hi:B<=i)(e:(jO B h)[i]? =some ob):ob= .frozen:=by unfold jO at e;grind
theorem Y8(h):jO h.length h=h:=by simp[jO]
section
variable {P:Program} {Γ:GG} {G:Gh} {h:AH} {w:World} {N B:Nat} {σ:Tm} {Q:Exit->Tm->AH->Prop}
theorem Inv.kill(hI:Inv Γ G h w)(B):Inv Γ G (jO B h) w:=
 {hI with
  obj:=fun i ob e=>by
   by_cases hi:i<B
   .rw[AB hi]at e;exact hI.obj i ob e
   .rw[F6 (by omega) e];trivial
  ij:=fun i b e=>by rw[y3];exact hI.ij i b e
  jv:=fun i r e=>by rw[y3];exact hI.jv i r e
  sep:=fun i b o v hf e e'=>by
   have hl:=hI.ij i b e;by_cases hi:i<B
   .rw[AB hi]at hf;exact hI.sep i b o v hf e e'
   .have Js:i<(jO B h).length:=by rw[y3];exact hl
    have e2:(jO B h)[i]? =some (jO B h)[i]:=List.getElem?_eq_getElem Js;have:=F6 (by omega) e2;grind}
theorem Inv.raise{G' h' w'}(hI:Inv Γ G h w)(hle:G.le G')(eA:Inv Γ G' h' w')(hl:h.length<=h'.length)(hp:∀i,i<B->h'[i]? =h[i]?):
  ∃G2,G.le G2/\Inv Γ G2 (jO B h) w'/\G2.bJ=G.bJ/\G2.ds=G'.ds:=by
 have h1:=eA.kill B;have e:jO B h'=jO B h++(jO B h').drop h.length:=by
  conv=>lhs;rw[<-List.take_append_drop h.length (jO B h')]
  congr 1;refine List.ext_getElem? fun i=>?_;rw[List.getElem?_take];split
  .rename_i hi;by_cases hB:i<B
   .rw[AB hB,AB hB,hp i hB]
   .have a1:i<(jO B h').length:=by rw[y3];omega
    have a2:i<(jO B h).length:=by rw[y3];omega
    rw[List.getElem?_eq_getElem a1,List.getElem?_eq_getElem a2,F6 (by omega) (List.getElem?_eq_getElem a1),F6 (by omega) (List.getElem?_eq_getElem a2)]
  .rename_i hi;rw[List.getElem?_eq_none (by rw[y3];omega)]
 rw[e]at h1;have hlen:(jO B h).length=h.length:=y3 B h;have h2:=h1.drop (fun i ob e=>by
  rw[hlen];by_cases hi:i<B
  .rw[AB hi]at e;exact hI.IE e
  .rw[F6 (by omega) e];trivial) (fun g cs e=>by rw[hlen];exact hI.IG g cs e)
 rw[hlen]at h2;have xu:G.le (G'.cut h.length):=Gh.IF hle hI.sF;have h3:=h2.DN G.bJ G'.ds (fun i st pe li b l e dI hb hd=>by
   by_cases hi:i<B
   .rw[AB hi]at e;obtain⟨c,l',q1,q2,q3,q4,q5,q6,q7,q8,q9,MW⟩:=hI.obj i _ e;have:=xu.ρ i c q1;rw[dI]at this;cases this;have:=hle.bJ _ _ q9;rw[show(G'.cut h.length).bJ b=G'.bJ b from rfl]at hd;rw[hd]at this;rw[q9,this]
   .have:=F6 (by omega) e;cases this)
  (fun b D e=>by obtain⟨l,k1,k2,k3⟩:=eA.lp b D (hle.bJ b D e);exact⟨⟨l,k1,k2,k3⟩,eA.jx b D (hle.bJ b D e)⟩) eA.gu
 exact⟨{G'.cut h.length with bJ:=G.bJ,ds:=G'.ds},⟨xu.w0,xu.ρ,xu.F,xu.ar,fun _ _ e=>e,hle.ds,fun b D e _=>⟨b,e⟩⟩,h3,rfl,rfl⟩
def xG(Γ:GG)(G:Gh)(h:AH)(B:Nat)(R:AV->AH->Prop)(X:Value->Prop)(e:Ending)(w':World):Prop:=
 og Γ G R e w'\/∃u G',e= .panicked (jN u)/\G.le G'/\Inv Γ G' (jO B h) w'/\G'.bJ=G.bJ/\X u
def dq(P:Program)(Γ:GG)(B:Nat)(f:FuncId)(args:List AV)(h:AH)(R:AV->AH->Prop)(X:Value->Prop):Prop:=
 (∀vs w,(callFunc f vs).run P w= .ok (.enter f vs) w)/\
 ∀(G:Gh) (w:World) (vs:Array Value),Inv Γ G h w->b9 G args vs->Calls P f vs w (xG Γ G h B R X)
def uP(P:Program)(Γ:GG)(B:Nat)(l:Nat)(args:List AV)(h:AH)(R:AV->AH->Prop)(X:Value->Prop):Prop:=
 ∀(G:Gh) (w:World) (vs:Array Value) (b:Nat),Inv Γ G h w->b9 G args vs->G.ρ l=some b->
  ∃fn tmps assign body,(Instr.yield b vs).run P w= .ok (.round b fn tmps assign body) w/\∀r,RoundIn (Fr r) 0 P b fn tmps assign body w (xG Γ G h B R X)
theorem dq.of{f args R X}(H:az P Γ f args h R):dq P Γ B f args h R X:=
 ⟨H.1,fun G w vs hI hv=>(H.2 G w vs hI hv).mono fun _ _ h=> .inl h⟩
theorem uP.of{l args R X}(H:rD P Γ l args h R):uP P Γ B l args h R X:=fun G w vs b hI hv hb=>by obtain⟨fn,tmps,assign,body,h1,h2⟩:=H G w vs b hI hv hb;exact⟨fn,tmps,assign,body,h1,fun r=>(h2 r).mono fun _ _ h=> .inl h⟩
theorem xG.mono{R R' X X' e}(hR:∀v h,R v h->R' v h)(hX:∀u,X u->X' u)(H:xG Γ G h B R X e w):xG Γ G h B R' X' e w:=by
 rcases H with H|⟨u,G',h1,h2,h3,h4,h5⟩
 .exact .inl (H.mono hR (Gh.le.refl G))
 .exact .inr ⟨u,G',h1,h2,h3,h4,hX u h5⟩
theorem dq.mono{f args R R' X X'}(H:dq P Γ B f args h R X)(hR:∀v h,R v h->R' v h)(hX:∀u,X u->X' u):dq P Γ B f args h R' X':=
 ⟨H.1,fun G w vs hI hv=>(H.2 G w vs hI hv).mono fun _ _=>xG.mono hR hX⟩
theorem uP.mono{l args R R' X X'}(H:uP P Γ B l args h R X)(hR:∀v h,R v h->R' v h)(hX:∀u,X u->X' u):uP P Γ B l args h R' X':=fun G w vs b hI hv hb=>by obtain⟨fn,tmps,assign,body,h1,h2⟩:=H G w vs b hI hv hb;exact⟨fn,tmps,assign,body,h1,fun r=>(h2 r).mono fun _ _=>xG.mono hR hX⟩
theorem dq.calm{f args R}(H:dq P Γ B f args h R fun _=>False):az P Γ f args h R:=
 ⟨H.1,fun G w vs hI hv=>(H.2 G w vs hI hv).mono fun _ _ h=>by
  rcases h with h|⟨_,_,_,_,_,_,h⟩
  .exact h
  .exact h.elim⟩
theorem dq.conv{f args R R' X}(H:dq P Γ B f args h R X)(hc:∀(G) (w) (e) (w'),Inv Γ G h w->og Γ G R e w'->og Γ G R' e w'):dq P Γ B f args h R' X:=
 ⟨H.1,fun G w vs hI hv=>(H.2 G w vs hI hv).mono fun e w' hr=>hr.imp (hc G w e w' hI) id⟩
theorem akf{R:AV->Prop}{e w'}(hI:Inv Γ G h w)(H:og Γ G (fun v h'=>(∃l,h'=h++l)/\RB h.length v/\R v) e w'):og Γ G (fun v h'=>h'=h/\R v) e w':=by obtain⟨v,G',av,h',rfl,h2,h3,h4,⟨l,rfl⟩,h6,h7⟩:=H;exact⟨v,G'.cut h.length,av,h,rfl,Gh.IF h2 hI.sF,h3.drop (fun i ob e=>hI.IE e) hI.IG,h4.cut h6,rfl,h7⟩
theorem dq.drop{f args}{R:AV->Prop}{X}(H:dq P Γ B f args h (fun v h'=>(∃l,h'=h++l)/\RB h.length v/\R v) X):dq P Γ B f args h (fun v h'=>h'=h/\R v) X:=
 H.conv fun _ _ _ _ hI hr=>akf hI hr
theorem dq.cv{g cD R X v}(H:az P Γ g cD h fun v' h'=>h'=h/\v'=v)(hR:R v h):dq P Γ B g cD h R X:= .of (H.cv hR)
theorem dq.tP{f cD bs R X}(H:dq P Γ B f bs h R X)(e:eI cD=bs):dq P Γ B f cD h R X:=
 ⟨H.1,fun G w vs hI hv=>H.2 G w vs hI (by subst e;refine⟨by rw[rK];simpa using hv.1,fun j c e=>?_⟩;rw[rK,List.getElem?_map]at e;obtain⟨c0,h0,rfl⟩:=Option.map_eq_some_iff.1 e;exact Jh (hv.2 j c0 h0))⟩
mutual
def kD:AV->Option Value
 | .int k n=>some (.int k n)
 | .bool b=>some (.bool b)
 | .str s=>some (.string s)
 | .iface t v=>(kD v).map (.iface t ·)
 | .agg cs=>(rP cs).map fun l=> .agg l.toArray
 |_=>none
def rP:List AV->Option (List Value)
 |[]=>some []
 |a::l=>match kD a,rP l with
  |some v,some r=>some (v::r)
  |_,_=>none
end
theorem RU:∀{l:List AV} {r:List Value},rP l=some r->l.length=r.length/\∀(j:Nat) (c:AV),l[j]? =some c->∃v,kD c=some v/\r[j]? =some v
 |[],r,e=>by simp[rP]at e;subst e;simp
 |a::l,r,e=>by
  rw[rP]at e;split at e
  .rename_i v r' h1 h2;cases e;obtain⟨k1,k2⟩:=RU h2;grind
  .cases e
theorem akg{a u}(h:VR G a u):∀{v},kD a=some v->u=v:=by
 induction h with
 |int k n=>intro v e;cases e;rfl
 |bool b=>intro v e;cases e;rfl
 |str s=>intro v e;cases e;rfl
 |iface t _ ih=>
  intro v e;rw[kD]at e;obtain⟨v',h1,rfl⟩:=Option.map_eq_some_iff.1 e;rw[ih h1]
 |agg hl hv ih=>
  rename_i cs vals;intro v e;rw[kD]at e;obtain⟨l,h1,rfl⟩:=Option.map_eq_some_iff.1 e;obtain⟨k1,k2⟩:=RU h1;congr 1;refine Array.ext (by simp;omega) fun j Nl RV=>?_;obtain⟨v,q1,q2⟩:=k2 j (cs[j]'(by omega)) (List.getElem?_eq_getElem (by omega));have:=ih j _ (List.getElem?_eq_getElem (by omega)) q1;rw[Array.getD_eq_getD_getElem?,Array.getElem?_eq_getElem Nl,Option.getD_some]at this;grind
 |_=>intro v e;cases e
theorem akh(t v w):(Instr.panic (.iface t v)).run P w= .halt (.panic (.iface t v)) w:=rfl
def Jt(P:Program)(Γ:GG)(B:Nat)(f:AV)(cD:List AV)(h:AH)(R:AV->AH->Prop)(X:Value->Prop):Prop:=match f with
 | .func g first cap=>dq P Γ B g (first++cD++cap) h R X
 | .yield l=>uP P Γ B l cD h R X
 |_=>False
def RW(Q:Exit->Tm->AH->Prop)(B:Nat)(σ:Tm)(h:AH)(u:Value):Prop:=Q (.panic (jN u)) σ (jO B h)
def Nn(x:AV)(K:Value->Prop):Prop:=match x with
 | .iface t v=>(match kD (.iface t v)with
  |some u=>K u
  |none=>False)
 |_=>False
def RX(Q:Exit->Tm->AH->Prop)(σ:Tm)(h:AH)(u:Value):Prop:=Q (.panic (jN u)) σ h
def D4(P:Program)(Γ:GG)(B:Nat)(o:Oper)(K:AV->Tm->AH->Prop)(Q:Exit->Tm->AH->Prop)(σ:Tm)(h:AH):Prop:=
 match o.op with
 | .call c=>(match c.callee with
  | .value f=>Jt P Γ B (ev Γ σ f) (c.args.toList.map (ev Γ σ)) h (FH K σ) (RW Q B σ h)
  |_=>pQ P Γ o K σ h)
 | .panic x=>Nn (ev Γ σ x) (RX Q σ h)
 |_=>pQ P Γ o K σ h
def mR(P:Program)(Γ:GG)(B:Nat)(ops:List Oper)(Q:Exit->Tm->AH->Prop):List Oper->Tm->AH->Prop
 |[],σ,h=>Q .normal σ h
 |o::rest,σ,h=>
  match o.guard with
  |none=>D4 P Γ B o (fun v σ h=>mR P Γ B ops Q rest (put o.dst v σ) h) Q σ h
  |some (j,want)=>Aj (sE ops j) fun t=>FI (lk σ t) want (D4 P Γ B o (fun v σ h=>mR P Γ B ops Q rest (put o.dst v σ) h) Q ((t,.bool want)::σ) h)
    (mR P Γ B ops Q rest (put o.dst (.tuple []) ((t,.bool (!want))::σ)) h) (mR P Γ B ops Q rest (put o.dst (.tuple []) σ) h)
theorem Y9{o K}(hI:Inv Γ G h w){a}(ht:TR N G σ a.tmps)(H:D4 P Γ B o K Q σ h){r next Q'}
  (hn:∀u v G' h' w',G.le G'->Inv Γ G' h' w'->VR G' v u->K v σ h'->next (a.put o.dst u) w')
  (hX:∀u G' h' w',G.le G'->Inv Γ G' h' w'->Q (.panic (jN u)) σ h'->Q' (.panic (jN u)) a w'):o.wpIn (Fr r) 0 P a w next Q':=by
 unfold D4 at H;split at H
 .rename_i c ho;split at H
  .rename_i f hf;refine⟨fun _ _=>trivial,?_⟩;show o.uponIn (Fr r) 0 P a next Q' ((o.semAt r a.eval).run P w);have pJ:=oH hI ht f;have ql:=Dy hI ht c.args;rw[BV r a.eval o (fun c' e=>by rw[ho]at e;cases e)];unfold Jt at H;split at H
   .rename_i g first cap hg
    rw[hg]at pJ;generalize qm:a.eval f=vf at pJ;cases pJ with
    |func h1 h2 h3 h4=>
     rename_i mj ml;obtain⟨np,qn⟩:=H;have jf:(execOp a.eval o).run P w= .ok (.enter g ((mj++c.args.map a.eval)++ml)) w:=by simp[execOp,ho,resolve,hf,qm,Deferred.ofValue,invoke,np]
     rw[jf,Oper.uponIn_enter];refine⟨fun e=>by simp[Fr]at e,?_⟩;refine CallsIn.mono (w7.2 (qn G w _ hI (b9.append (b9.append ⟨h1,h3⟩ ql) ⟨h2,h4⟩))) fun e w' hr=>?_;rcases hr with⟨v,G',av,h',rfl,k1,k2,k3,k4⟩|⟨u,G',rfl,k1,k2,_,k3⟩
     .exact hn v av G' h' w' k1 k2 k3 k4
     .exact hX u G' _ w' k1 k2 k3
   .rename_i l hl;rw[hl]at pJ;generalize qm:a.eval f=vf at pJ;cases pJ with
    | @yield _ B hb=>
     obtain⟨fn,tmps,assign,body,hy,QT⟩:=H G w _ _ hI ql hb;have jf:(execOp a.eval o).run P w= .ok (.round B fn tmps assign body) w:=by simp[execOp,ho,resolve,hf,qm,Deferred.ofValue,invoke,hy]
     rw[jf,Oper.uponIn_round];refine⟨fun e=>by simp[Fr]at e,RoundIn.mono (QT r) fun e w' hr=>?_⟩;rcases hr with⟨v,G',av,h',rfl,k1,k2,k3,k4⟩|⟨u,G',rfl,k1,k2,_,k3⟩
     .exact hn v av G' h' w' k1 k2 k3 k4
     .exact hX u G' _ w' k1 k2 k3
   .exact H.elim
  .exact Iz hI ht H hn
 .rename_i x ho;refine⟨fun _ _=>trivial,?_⟩;show o.uponIn (Fr r) 0 P a next Q' ((o.semAt r a.eval).run P w);rw[BV r a.eval o (fun c' e=>by rw[ho]at e;cases e)];have hx:=oH hI ht x;unfold Nn at H;split at H
  .rename_i t v hv;split at H
   .rename_i u hu;rw[hv]at hx;have e:=akg hx hu;generalize hvx:a.eval x=vx at hx e;cases hx with
    |iface _ hx=>
     have jf:(execOp a.eval o).run P w= .halt (.panic u) w:=by rw[<-e];simp[execOp,ho,hvx,akh,Result.andThen]
     rw[jf,Oper.uponIn_panic];exact hX u G h w (Gh.le.refl G) hI H
   .exact H.elim
  .exact H.elim
 .exact Iz hI ht H hn
theorem akj{ops:Array Oper}{G0 ds r}:∀(l:List Nat) (σ) (h) (G) (w) (a),(∀i∈l,∀o,ops[i]? =some o->∀x,o.dst=some x->x<N)->
  G0.le G->Inv Γ G h w->TR N G σ a.tmps->a.defers=ds->mR P Γ B ops.toList Q (l.filterMap (ops[·]?)) σ h->wpOpsIn (Fr r) 0 P ops (fA Γ N G0 ds Q) l a w:=by
 intro l;induction l with
 |nil=>
  intro σ h G w a _ hle hI ht hd H;exact⟨G,σ,h,[],hle,hI,ht,by simpa using hd,fun D hD=>by simp at hD,List.nodup_nil,H⟩
 |cons i rest ih=>
  intro σ h G w a kx hle hI ht hd H;rw[wpOpsIn_cons];unfold wpOpIn;cases ho:ops[i]? with
  |none=>
   grind
  |some o=>
   simp only[List.filterMap_cons,ho]at H;have ld:=kx i (List.mem_cons_self ..) o ho;have run:∀σ,TR N G σ a.tmps->D4 P Γ B o (fun v σ h=>mR P Γ B ops.toList Q (rest.filterMap (ops[·]?)) (put o.dst v σ) h) Q σ h->o.wpIn (Fr r) 0 P a w (wpOpsIn (Fr r) 0 P ops (fA Γ N G0 ds Q) rest) (fA Γ N G0 ds Q):=fun σ ht H=>
    Y9 hI ht H (fun u v G' h' w' h1 h2 h3 h4=>
     ih _ h' G' w' _ (fun j hj=>kx j (List.mem_cons_of_mem _ hj)) (hle.trans h1) h2 ((ht.mono h1).put ld h3) ((put_defers a o.dst u).trans hd) h4)
     (fun u G' h' w' h1 h2 h3=>⟨G',σ,h',[],hle.trans h1,h2,ht.mono h1,by simpa using hd,fun D hD=>by simp at hD,List.nodup_nil,h3⟩)
   have pass:∀σ,TR N G σ a.tmps->mR P Γ B ops.toList Q (rest.filterMap (ops[·]?)) (put o.dst (.tuple []) σ) h->(∀f,o.about P w a.eval=some f->(Fr r).fn f)/\wpOpsIn (Fr r) 0 P ops (fA Γ N G0 ds Q) rest (a.put o.dst undef) w:=fun σ ht H=>by exact⟨fun _ _=>trivial,ih _ h G w _ (fun j hj=>kx j (List.mem_cons_of_mem _ hj)) hle hI (ht.put ld (VR.undef G)) ((put_defers a o.dst undef).trans hd) H⟩
   simp only[mR]at H;unfold Region.wanted;split at H
   .grind
   .rename_i j want hg;simp only[hg];unfold Aj at H;split at H
    .rename_i t hj;rw[BZ,Array.getElem?_toList]at hj;rcases IB H with⟨b,hb,H1,H2⟩|⟨hb,H⟩
     .rw[IA ht hj hb];by_cases rF:b=want
      .subst rF;simp only[beq_self_eq_true,if_true];exact run _ (ht.same hb) (H1 rfl)
      .have:(some b==some want)=false:=by cases b<;>cases want<;>simp_all
       simp only[this,Bool.false_eq_true,if_false];have nI:b=!want:=by cases b<;>cases want<;>simp_all
       exact pass _ (ht.same (hb.trans (by rw[nI]))) (H2 nI)
     .rw[IC ht hj hb];grind
    .exact H.elim
theorem akk{id ops}(hd:mi N ops=true)(H:mR P Γ B ops.toList Q ops.toList σ h):bw P Γ N (.region id ops false) Q σ h:=fun r G w a hr hI ht=>
 wpIn_region (akj (List.range ops.size) σ h G w a (fun i _ o ho x hx=>by have:=List.all_eq_true.1 hd o (by simpa using Array.mem_of_getElem? ho);simp_all) (Gh.le.refl G) hI ht rfl (by rw[Dz];exact H))
theorem lh{r}(m:Machine):m.fenced P (Fr r):=fun g _=>⟨fun h=>by simp[Fr]at h,.inl trivial,fun _ _=>trivial,fun _ h=>by simp[Fr]at h⟩
def pj(P:Program)(f0:FuncId)(r:Option Nat)(c:Code)(Q:Exit->Act->World->Prop)(a:Act)(w:World):Prop:=
 ∀(b:Frame) (k:List Item) (cs:List Frame),b.roundOf=r->b.fn=f0->∃e a' w',Q e a' w'/\ArrivesIn (Machine.fenced P (Fr r)) P (lone (b.atR a (.code c::k)) cs w) b k cs e a' w'
section
variable {f0:FuncId} {r:Option Nat} {QW:Exit->Act->World->Prop} {a:Act}
theorem D5{c}(H:c.wpIn (Fr r) 0 P QW a w):pj P f0 r c QW a w:=fun b k cs nn _=>H b k cs nn trivial (fun _ h=>by simp[Fr]at h)
theorem AD{c Q'}(H:pj P f0 r c QW a w)(hq:∀e a w,QW e a w->Q' e a w):pj P f0 r c Q' a w:=fun b k cs nn hf=>by obtain⟨e,a',w',h1,h2⟩:=H b k cs nn hf;exact⟨e,a',w',hq _ _ _ h1,h2⟩
theorem F7{x y}(H:pj P f0 r x (Exit.then (pj P f0 r y QW) QW) a w):pj P f0 r (.seq x y) QW a w:=by
 intro b k cs nn hf;obtain⟨e,a1,w1,hq,dU⟩:=H b (.code y::k) cs nn hf;cases e with
 |normal=>
  obtain⟨e2,a2,w2,gq,xH⟩:=hq b k cs nn hf;exact⟨e2,a2,w2,gq,.of_steps (.head (lh _) stepR_seq dU) xH⟩
 |_=>exact⟨_,a1,w1,hq,.of_steps (.one (lh _) stepR_seq) (.pass (x:= .code y) rfl (fun _ _=> .inl (by simp)) dU)⟩
theorem Y_{c x y t}(hc:a.eval c= .bool t)(H:pj P f0 r (if t then x else y) QW a w):pj P f0 r (.cond c x y) QW a w:=fun b k cs nn hf=>by obtain⟨e,a',w',h1,h2⟩:=H b k cs nn hf;exact⟨e,a',w',h1,.of_steps (.one (lh _) (stepR_cond hc)) h2⟩
theorem akl{id c}(H:pj P f0 r c (Exit.inBlock id QW) a w):pj P f0 r (.block id c) QW a w:=by
 intro b k cs nn hf;obtain⟨e,a1,w1,hq,dU⟩:=H b (.inBlock id::k) cs nn hf;cases e with
 |normal=>exact⟨.normal,a1,w1,hq,.head (lh _) stepR_block (StepsIn.trans dU (.one (lh _) stepR_inBlock))⟩
 |exit rE=>
  by_cases hid:rE=id
  .simp only[Exit.inBlock,hid,if_true]at hq;exact⟨.normal,a1,w1,hq,.head (lh _) stepR_block (dU.1 k (by simp[exitTo,hid]))⟩
  .simp only[Exit.inBlock,hid,if_false]at hq;have this:(id==rE)=false:=by simp;exact fun h=>hid h.symm
   have hx:exitTo rE (.inBlock id::k)=exitTo rE k:=by simp[exitTo,this]
   exact⟨.exit rE,a1,w1,hq,fun k' hk=> .head (lh _) stepR_block (dU.1 k' (by rw[hx];exact hk)),fun n9 hk=>by obtain⟨k1,h1,h2⟩:=dU.2 n9 (by rw[hx];exact hk);exact⟨k1,h1,.head (lh _) stepR_block h2⟩⟩
 |goto l=>
  have hx:gotoIn l (.inBlock id::k)=gotoIn l k:=by simp[gotoIn]
  exact⟨_,a1,w1,hq,fun k' hk=> .head (lh _) stepR_block (dU.1 k' (by rw[hx];exact hk)),fun n9 hk=>by obtain⟨k1,h1,h2⟩:=dU.2 n9 (by rw[hx];exact hk);exact⟨k1,h1,.head (lh _) stepR_block h2⟩⟩
 |_=>exact⟨_,a1,w1,hq,.of_steps (.one (lh _) stepR_block) dU⟩
theorem akm{c}(I:Nat->Act->World->Prop){n}(h0:I n a w)(round:∀n a w,I n a w->pj P f0 r c (Exit.then (fun a' w'=>∃j,j<n/\I j a' w') QW) a w):pj P f0 r (.loop c) QW a w:=by
 intro b k cs nn hf;have key:∀n a w,I n a w->∃e a' w',QW e a' w'/\ArrivesIn (Machine.fenced P (Fr r)) P (lone (b.atR a (.code c:: .inLoop c::k)) cs w) b k cs e a' w':=by
  intro n;induction n using Nat.strongRecOn with
  |_ n ih=>
   intro a w hI;obtain⟨e,a1,w1,hq,dU⟩:=round n a w hI b (.inLoop c::k) cs nn hf;cases e with
   |normal=>
    obtain⟨j,dN,Ad⟩:=hq;obtain⟨e2,a2,w2,gq,xH⟩:=ih j dN a1 w1 Ad;exact⟨e2,a2,w2,gq,.of_steps (StepsIn.trans dU (.one (lh _) stepR_inLoop)) xH⟩
   |_=>exact⟨_,a1,w1,hq,.pass (x:= .inLoop c) rfl (fun _ _=> .inl (by simp)) dU⟩
 obtain⟨e,a',w',hq,dU⟩:=key n a w h0;exact⟨e,a',w',hq,.of_steps (.one (lh _) stepR_loop) dU⟩
theorem akn{g ps assign body}
  (H:∃(l:Nat) (mark:List Deferred) (w1:World) (d:Deferred) (w2:World) (f:FuncId) (args:Array Value) (w3:World),
   (Instr.enterLoop f0 a.tmps ps assign body r).run P w= .ok (l,mark) w1/\(resolve a.eval (rangeCall g l) 0).run P w1= .ok d w2/\(invoke d.target d.args).run P w2= .ok (.enter f args) w3/\
   CallsIn (Fr r) 0 P f args w3 (rangePost (Fr r) 0 P l QW {a with defers:=mark++a.defers})):pj P f0 r (.rangeFunc g ps assign body) QW a w:=by
 intro b k cs nn hf;obtain⟨l,mark,w1,d,w2,f,args,w3,he,oN,hinv,_,qn⟩:=H;rw[<-nn,<-hf]at he;have np:=stepR_rangeFunc (P:=P) (b:=b) (a:=a) (k:=k) (cs:=cs) (w:=w) he oN hinv;obtain⟨e,w4,fr,hR,RY,sy,Za⟩:=qn (b.atR {a with defers:=mark++a.defers} (.inRangeFunc l::k)::cs) (fun _ h=>by simp[Fr]at h);cases e with
 |outgrown=>
  obtain⟨a0,w0,hq⟩:=hR;exact⟨.outgrown,a0,w0,hq,.inr (Outgrown.of_steps (.one np) RY)⟩
 |returned v=>
  obtain⟨jump,w5,AE,hj⟩:=hR;have Zb:StepsIn (Machine.fenced P (Fr r)) P (lone (b.atR a (.code (.rangeFunc g ps assign body)::k)) cs w) (lone (b.atR {a with defers:=mark++a.defers} ((jump.map Item.code).toList++k)) cs w5):=by refine .head (lh _) np (StepsIn.trans RY (.head (lh _) ?_ (.one (lh _) (stepR_endRangeFunc AE))));rw[<-finish_atR_inRangeFunc l v];exact step_leave_returned Za
  cases jump with
  |none=>exact⟨.normal,_,w5,hj,Zb⟩
  |some c=>
   obtain⟨e',QP,w6,hq,dU⟩:=hj b k cs nn trivial (fun _ h=>by simp[Fr]at h);exact⟨e',QP,w6,hq,.of_steps Zb dU⟩
 |panicked chain=>
  refine⟨.panic chain,_,w4,hR,.inRangeFunc l::k,.head (lh _) np (StepsIn.trans RY (.one (lh _) ?_))⟩;rw[<-Frame.raise_atR];exact step_leave_panicked Za
def F8(P:Program)(R:Ending->World->Prop)(chain:List PanicEntry):List Deferred->World->Prop
 |[],w=>R (.panicked chain) w
 |d::ds,w=>∃D w',d.target= .collected D/\(Instr.takeDeferred D).run P w= .ok [] w'/\F8 P R chain ds w'
theorem Zc{R:Ending->World->Prop}{chain:List PanicEntry}{c:Frame}{cs:List Frame}{fn:Func}:∀(ds:List Deferred) (w:World) (fr:Frame),fr.mode= .panicking chain->fr.defers=ds->P.funcs[fr.fn]? =some fn->F8 P R chain ds w->
  ∃w',R (.panicked chain) w'/\StepsIn (Machine.fenced P (Fr r)) P (lone fr (c::cs) w) (lone (c.raise chain) cs w')
 |[],w,fr,hm,hd,hf,H=>⟨w,H,.one (lh _) (step_leave_panicked ⟨hm,hd,fn,hf⟩)⟩
 |d::ds,w,fr,hm,hd,hf,⟨D,w',h1,h2,h3⟩=>by obtain⟨Ak,k1,k2⟩:=Zc ds w' {fr with defers:=[]++ds} hm rfl hf h3;exact⟨Ak,k1,.head (lh _) (step_collected (by rw[hm];simp) hd h1 h2) k2⟩
def ako(P:Program)(l:Nat)(R:Ending->World->Prop):Exit->Act->World->Prop
 | .panic chain,a,w=>F8 P R chain a.defers w
 |e,a,w=>roundPost P l R e a w
theorem akp{l fn tmps assign body R}(hf:P.funcs[f0]? =some fn)
  (H:pj P f0 (some l) assign (Exit.then (fun a1 w1=>∃w2,(Instr.beginRound l).run P w1= .ok () w2/\pj P f0 (some l) body (ako P l R) a1 w2) (fun _ _ _=>False)) {tmps:=tmps,defers:=[]} w):
  RoundIn (Fr r) 0 P l f0 tmps assign body w R:=by
 refine⟨trivial,fun c cs _=>?_⟩;let b:Frame:={(default:Frame)with fn:=f0,kind:= .normal,roundOf:=some l};have Co:Frame.round l f0 tmps assign body .normal=b.atR {tmps:=tmps,defers:=[]} [.code assign,.beginRound,.code body]:=by simp[Frame.round,Frame.atR,b]
 obtain⟨e,a1,w1,hq,dU⟩:=H b [.beginRound,.code body] (c::cs) rfl rfl;rw[<-Co]at dU;have dU:ArrivesIn (Machine.fenced P (Fr r)) P (lone (Frame.round l f0 tmps assign body .normal) (c::cs) w) b [.beginRound,.code body] (c::cs) e a1 w1:=dU;cases e with
 |normal=>
  obtain⟨w2,hbr,Jc⟩:=hq;have s1:StepsIn (Machine.fenced P (Fr r)) P (lone (b.atR a1 [.beginRound,.code body]) (c::cs) w1) (lone (b.atR a1 [.code body]) (c::cs) w2):= .one (lh _) (stepR_beginRound rfl hbr);obtain⟨e2,a2,w3,gq,xH⟩:=Jc b [] (c::cs) rfl rfl;have xH:ArrivesIn (Machine.fenced P (Fr r)) P (lone (b.atR a1 [.code body]) (c::cs) w2) b [] (c::cs) e2 a2 w3:=xH;cases e2 with
  |normal=>
   obtain⟨v,w4,AE,hR⟩:=gq;exact⟨.returned v,w4,hR,(StepsIn.trans dU s1).trans (StepsIn.trans xH (.one (lh _) (stepR_round_end rfl rfl AE)))⟩
  |ret=>
   obtain⟨v,w4,AE,hR⟩:=gq;obtain⟨k1,hs⟩:=xH.2 rfl;exact⟨.returned v,w4,hR,(StepsIn.trans dU s1).trans (StepsIn.trans hs (.one (lh _) (stepR_round_ret rfl rfl AE)))⟩
  |exit id=>
   obtain⟨v,w4,AE,hR⟩:=gq;obtain⟨k1,hk,hs⟩:=xH.2 rfl rfl;exact⟨.returned v,w4,hR,(StepsIn.trans dU s1).trans (StepsIn.trans hs (.one (lh _) (stepR_round_exit rfl rfl hk AE)))⟩
  |goto t=>
   obtain⟨v,w4,AE,hR⟩:=gq;obtain⟨k1,hk,hs⟩:=xH.2 rfl rfl;exact⟨.returned v,w4,hR,(StepsIn.trans dU s1).trans (StepsIn.trans hs (.one (lh _) (stepR_round_goto rfl rfl hk AE)))⟩
  |panic chain=>
   obtain⟨todo,hs⟩:=xH;obtain⟨w4,k1,k2⟩:=Zc (r:=r) (c:=c) (cs:=cs) a2.defers w3 {b.atR a2 todo with mode:= .panicking chain} rfl rfl hf gq;exact⟨.panicked chain,w4,k1,(StepsIn.trans dU s1).trans (StepsIn.trans hs k2)⟩
  |outgrown=>exact gq.elim
 |_=>exact hq.elim
theorem RZ{fn c args R}(hf:P.funcs[f0]? =some fn)(hb:fn.body=some c)
  (H:pj P f0 none c (bodyPostM (Fr none) 0 P fn R) {tmps:=args++Array.replicate (fn.ntmps-args.size) undef,defers:=[]} w):CallsIn (Fr none) 0 P f0 args w R:=by
 refine⟨trivial,fun cs hr=>?_⟩;let b:Frame:={(default:Frame)with fn:=f0,kind:= .normal,roundOf:=none};have np:Frame.enter P f0 args .normal=b.atR {tmps:=args++Array.replicate (fn.ntmps-args.size) undef,defers:=[]} [.code c]:=by simp[Frame.enter,Frame.atR,hf,hb,b]
 obtain⟨e,a',w',hq,dU⟩:=H b [] cs rfl rfl;rw[<-np]at dU;have fin:∀(u:FrameMode) (todo:List Item),LeavesInM (Fr none) 0 P fn a'.tmps R a'.defers u w'->StepsIn (Machine.fenced P (Fr none)) P (lone (Frame.enter P f0 args .normal) cs w) (lone {b.atR a' todo with mode:=u} cs w')->
   ∃e Ak Ju,R e Ak/\ComesIn (Machine.fenced P (Fr none)) P (lone (Frame.enter P f0 args .normal) cs w) (lone Ju cs Ak) e/\Ju.fn=f0/\Ju.leaving P Ak e:=fun u todo hL hs=>by
  obtain⟨e',Ak,Ju,hR,zU,sy,hl⟩:=leaves_stepsInM a'.defers u w' {b.atR a' todo with mode:=u} cs rfl rfl rfl hf rfl trivial hr hL;exact⟨e',Ak,Ju,hR,ComesIn.of_steps hs zU,sy,hl⟩
 cases e with
 |normal=>exact fin .returning [] hq (StepsIn.trans dU (.one (lh _) (stepR_end rfl)))
 |ret=>obtain⟨todo,hs⟩:=dU.1 rfl;exact fin .returning todo hq hs
 |panic chain=>obtain⟨todo,hs⟩:=dU;exact fin (.panicking chain) todo hq hs
 |exit id=>exact hq.elim
 |goto l=>exact hq.elim
 |outgrown=>exact⟨.outgrown,w',b,hq,dU.resolve_left (by simp[b]),rfl,trivial⟩
end
end
section
variable {P:Program} {Γ:GG} {G:Gh} {h:AH} {w:World} {N B:Nat} {σ:Tm} {Q:Exit->Tm->AH->Prop} {f0:FuncId}
def ee(P:Program)(Γ:GG)(f0:FuncId)(N:Nat)(c:Code)(Q:Exit->Tm->AH->Prop)(σ:Tm)(h:AH):Prop:=
 ∀(r:Option Nat) (G:Gh) (w:World) (a:Act),(∀l,r=some l->∃D,G.bJ l=some D)->Inv Γ G h w->TR N G σ a.tmps->pj P f0 r c (fA Γ N G a.defers Q) a w
theorem ee.of{c}(H:bw P Γ N c Q σ h):ee P Γ f0 N c Q σ h:=fun r G w a hr hI ht=>D5 (H r G w a hr hI ht)
theorem ee.mono{c Q'}(H:ee P Γ f0 N c Q σ h)(hQ:∀e σ h,Q e σ h->Q' e σ h):ee P Γ f0 N c Q' σ h:=
 fun r G w a h1 h2 h3=>AD (H r G w a h1 h2 h3) fun _ _ _=>fA.mono hQ
theorem ee.after{c}(H:ee P Γ f0 N c Q σ h){r G0 ds}{Ds:List Nat}(hr:∀l,r=some l->∃D,G0.bJ l=some D)(hle:G0.le G)
  (nG:∀D∈Ds,¬G0.ds D/\G.ds D/\∀b,G.bJ b≠some D)(iF:Ds.Nodup)(hI:Inv Γ G h w){a}(ht:TR N G σ a.tmps)(hd:a.defers=Ds.map mark++ds):pj P f0 r c (fA Γ N G0 ds Q) a w:=
 AD (H r G w a (fun l e=>by obtain⟨D,k⟩:=hr l e;exact⟨D,hle.bJ _ _ k⟩) hI ht) fun e a' w' hp=>by rw[hd]at hp;exact hp.trans hle nG iF
theorem akr{x y}(H:ee P Γ f0 N x (iP (ee P Γ f0 N y Q) Q) σ h):ee P Γ f0 N (.seq x y) Q σ h:=fun r G w a hr hI ht=>by
 refine F7 (AD (H r G w a hr hI ht) fun e a' w' hp=>?_);cases e with
 |normal=>
  obtain⟨G',σ',h',Ds,h1,h2,h3,h4,h5,h6,h7⟩:=hp;exact ee.after h7 hr h1 h5 h6 h2 h3 h4
 |_=>exact hp
theorem aks{c x y b}(hc:ev Γ σ c= .bool b)(h1:b=true->ee P Γ f0 N x Q σ h)(h2:b=false->ee P Γ f0 N y Q σ h):ee P Γ f0 N (.cond c x y) Q σ h:=fun r G w a hr hI ht=>by
 have hv:=oH hI ht c;rw[hc]at hv;have hb:a.eval c= .bool b:=by generalize a.eval c=vc at hv;cases hv;rfl
 refine Y_ hb ?_;cases b with
 |true=>exact h1 rfl r G w a hr hI ht
 |false=>exact h2 rfl r G w a hr hI ht
theorem akt{id c}(H:ee P Γ f0 N c (w9 id Q) σ h):ee P Γ f0 N (.block id c) Q σ h:=fun r G w a hr hI ht=>by
 refine akl (AD (H r G w a hr hI ht) fun e a' w' hp=>?_);cases e with
 |exit rE=>
  show if rE=id then _ else _
  obtain⟨G',σ',h',Ds,h1,h2,h3,h4,h5,h6,h7⟩:=hp;simp only[w9]at h7;split
  .rename_i he;rw[if_pos he]at h7;exact⟨G',σ',h',Ds,h1,h2,h3,h4,h5,h6,h7⟩
  .rename_i he;rw[if_neg he]at h7;exact⟨G',σ',h',Ds,h1,h2,h3,h4,h5,h6,h7⟩
 |_=>exact hp
theorem aku{c}(I){n}(h0:I n σ h)(H:∀n σ h,I n σ h->ee P Γ f0 N c (WZ I n Q) σ h):ee P Γ f0 N (.loop c) Q σ h:=fun r G w a hr hI ht=>by
 refine akm (fun n a' w'=>fA Γ N G a.defers (fun _ σ h=>I n σ h) .normal a' w') (fA.now hI ht h0) fun n a' w' hp=>?_;obtain⟨G',σ',h',Ds,h1,h2,h3,h4,h5,h6,h7⟩:=hp;refine AD (ee.after (H n σ' h' h7) hr h1 h5 h6 h2 h3 h4) fun e QP Ak hp=>?_;cases e with
 |normal=>
  obtain⟨G',σ',h',Ds,h1,h2,h3,h4,h5,h6,m,hm,h7⟩:=hp;exact⟨m,hm,G',σ',h',Ds,h1,h2,h3,h4,h5,h6,h7⟩
 |_=>exact hp
theorem ee.weaken{c σ'}(H:ee P Γ f0 N c Q σ' h)(hw:∀i,lk σ' i=lk σ i\/lk σ' i= .top):ee P Γ f0 N c Q σ h:=fun r G w a hr hI ht=>
 H r G w a hr hI ⟨ht.1,fun i=>by
  rcases hw i with e|e
  .rw[e];exact ht.2 i
  .rw[e];exact .top _⟩
theorem ee.Ix{c σ'}(H:ee P Γ f0 N c Q σ' h)(hw:yE σ σ'):ee P Γ f0 N c Q σ h:=fun r G w a hr hI ht=>H r G w a hr hI ⟨ht.1,fun i=>hw G i _ (ht.2 i)⟩
theorem ee.keep{c:Code}(L:List Nat)(H:ee P Γ f0 N c Q (keep L σ) h):ee P Γ f0 N c Q σ h:=H.weaken (W8 L σ)
def jP(P:Program)(Γ:GG)(f0:FuncId)(B N:Nat):Code->(Exit->Tm->AH->Prop)->Tm->AH->Prop
 | .skip,Q,σ,h=>Q .normal σ h
 | .label _,Q,σ,h=>Q .normal σ h
 | .exit id,Q,σ,h=>Q (.exit id) σ h
 | .goto l,Q,σ,h=>Q (.goto l) σ h
 | .ret,Q,σ,h=>Q .ret σ h
 | .region _ ops false,Q,σ,h=>mR P Γ B ops.toList Q ops.toList σ h
 | .region id ops true,Q,σ,h=>ee P Γ f0 N (.region id ops true) Q σ h
 | .seq x y,Q,σ,h=>jP P Γ f0 B N x (iP (fun σ h=>bif stops x then ee P Γ f0 N y Q σ h else jP P Γ f0 B N y Q σ h) Q) σ h
 | .cond c x y,Q,σ,h=>w8 (ev Γ σ c) true (jP P Γ f0 B N x Q σ h) (jP P Γ f0 B N y Q σ h)
 | .block id c,Q,σ,h=>jP P Γ f0 B N c (w9 id Q) σ h
 |c,Q,σ,h=>ee P Γ f0 N c Q σ h
theorem pq:∀(c) (Q) (σ) (h),gW N c=true->jP P Γ f0 B N c Q σ h->ee P Γ f0 N c Q σ h:=by
 intro c;induction c with
 |skip=>exact fun Q σ h _ H=> .of (WU H)
 |label l=>exact fun Q σ h _ H=> .of (WV H)
 |exit id=>exact fun Q σ h _ H=> .of (WW H)
 |goto l=>exact fun Q σ h _ H=> .of (WX H)
 |ret=>exact fun Q σ h _ H=> .of (WY H)
 |region id ops d=>
  intro Q σ h hc H;simp only[gW,Bool.and_eq_true]at hc;cases d with
  |false=>exact .of (akk hc.1 H)
  |true=>exact H
 |seq x y ix iy=>
  intro Q σ h hc H;simp only[gW,Bool.and_eq_true]at hc;refine akr ((ix _ σ h hc.1 H).mono fun e σ h he=>?_);cases e with
  |normal=>
   simp only[iP]at he|-;grind
  |_=>exact he
 |cond b x y ix iy=>
  intro Q σ h hc H;simp only[gW,Bool.and_eq_true]at hc;obtain⟨v,hv,h1,h2⟩:=W_ H;exact aks hv (fun e=>ix Q σ h hc.1 (h1 e)) (fun e=>iy Q σ h hc.2 (h2 e))
 |block id c ic=>exact fun Q σ h hc H=>akt (ic _ σ h hc H)
 |loop c _=>exact fun Q σ h _ H=>H
 |rangeFunc f ps a b _ _=>exact fun Q σ h _ H=>H
 |scope c _=>exact fun Q σ h _ H=>H
 |refuse s=>exact fun Q σ h _ H=>H
theorem D6{α β c}(xs L)(st:List α->β->Tm)(hp inv b0)(h1:keep L σ=st [] b0)(h2:h=hp b0)(h3:inv [] xs b0)
  (hc:gW N c=true)(H1:∀ae x r b,xs=ae++x::r->inv ae (x::r) b->jP P Γ f0 B N c (DP L st hp inv ae x r Q) (st ae b) (hp b))
  (H0:∀b,inv xs [] b->jP P Γ f0 B N c (DQ Q) (st xs b) (hp b)):ee P Γ f0 N (.loop c) Q σ h:=by
 refine aku (fun n σ h=>∃ae rest b,n=rest.length/\xs=ae++rest/\inv ae rest b/\yE (keep L σ) (st ae b)/\h=hp b) ⟨[],xs,b0,rfl,rfl,h3,.of_eq h1,h2⟩ fun n σ h hx=>?_;obtain⟨ae,rest,b,rfl,iX,hi,hs,rfl⟩:=hx;refine ee.keep L (ee.Ix ?_ hs);cases rest with
 |nil=>
  rw[List.append_nil]at iX;subst iX;refine(pq c _ _ _ hc (H0 b hi)).mono fun e σ h he=>?_;cases e with
  |normal=>exact he.elim
  |_=>exact he
 |cons x r=>
  refine(pq c _ _ _ hc (H1 ae x r b iX hi)).mono fun e σ h he=>?_;cases e with
  |normal=>
   obtain⟨b',k1,k2,k3⟩:=he;exact⟨r.length,by simp,ae++[x],r,b',rfl,by simp[iX],k1,k2,k3⟩
  |_=>exact he
theorem akv(K c):iP K Q (.panic c) σ h=Q (.panic c) σ h:=(rfl)
def xI(B:Nat)(h:AH)(X:Value->Prop)(c:List PanicEntry)(h':AH):Prop:=∃u,c=jN u/\X u/\h.length<=h'.length/\∀i,i<B->h'[i]? =h[i]?
theorem xI.now{X u}(hB:B<=h.length)(hX:X u)(l):xI B h X (jN u) (jO B (h++l)):=⟨u,rfl,hX,by rw[y3];simp,fun i hi=>by rw[AB hi,List.getElem?_append_left (by omega)]⟩
theorem xI.here{X u}(hB:B<=h.length)(hX:X u)(l):xI B h X (jN u) (h++l):=⟨u,rfl,hX,by simp,fun i hi=>by grind⟩
theorem Zd{h0 G0 w0 R X u}(gT:Inv Γ G0 h0 w0)(hX:X u):∀(Ds:List Nat) (G) (h) (w),G0.le G->Inv Γ G h w->(∀D∈Ds,¬G0.ds D/\G.ds D/\∀b,G.bJ b≠some D)->Ds.Nodup->
  h0.length<=h.length->(∀i,i<B->h[i]? =h0[i]?)->F8 P (xG Γ G0 h0 B R X) (jN u) (Ds.map mark) w:=by
 intro Ds;induction Ds with
 |nil=>
  intro G h w hle hI _ _ hl hp;obtain⟨G2,k1,k2,k3,_⟩:=gT.raise hle hI hl hp;exact .inr ⟨u,G2,rfl,k1,k2,k3,hX⟩
 |cons D Ds ih=>
  intro G h w hle hI hD iF hl hp;obtain⟨d1,d2,d3⟩:=hD D (List.mem_cons_self ..);rw[List.nodup_cons]at iF;refine⟨D,_,rfl,run_takeDeferred (hI.gu D d2).1,ih _ h _ (Gh.Mj hle d1) (hI.Mi d2 d3) (fun D' FK=>?_) iF.2 hl hp⟩;grind
theorem Ze{fn:Func}{t:Array Value}{R:Ending->World->Prop}{c:List PanicEntry}:∀(Ds:List Nat) (w:World),F8 P R c (Ds.map mark) w->LeavesInM (Fr none) 0 P fn t R (Ds.map mark) (.panicking c) w
 |[],_,H=>H
 |D::Ds,w,⟨D',w',h1,h2,h3⟩=>⟨by simp,.inl ⟨D',w',h1,h2,Ze Ds w' h3⟩⟩
def Jv(P:Program)(rs:List ResultVar)(B:Nat)(h0:AH)(R:AV->AH->Prop)(X:Value->Prop):Exit->Tm->AH->Prop
 | .ret,σ,h=>lE P σ h rs fun vs=>R (oneOf vs) h
 | .normal,σ,h=>lE P σ h rs fun vs=>R (oneOf vs) h
 | .panic c,_,h=>xI B h0 X c h
 |_,_,_=>False
theorem akw{fn c args rs R X}(hf:P.funcs[f0]? =some fn)(hb:fn.body=some c)(hn:(fn.name== "runtime.NumGoroutine")=false)
  (hN:Nat.ble args.length fn.ntmps=true)(fJ:fn.results=rs.toArray)(H:ee P Γ f0 fn.ntmps c (Jv P rs B h R X) (nJ 0 args) h):dq P Γ B f0 args h R X:=by
 refine⟨fun vs w=>xb hf hb hn vs w,fun G w vs hI hv=>?_⟩;refine(w7 (r:=none) (n:=0)).1 (RZ hf hb ?_);refine AD (H none G w _ (fun l e=>by cases e) hI (FJ hv (Nat.le_of_ble_eq_true hN))) fun e a' w' hp=>?_;obtain⟨G',σ',h',Ds,h1,h2,h3,h4,h5,h6,h7⟩:=hp;simp only[List.append_nil]at h4;have ret:lE P σ' h' rs (fun vs=>R (oneOf vs) h')->LeavesInM (Fr none) 0 P fn a'.tmps (xG Γ G h B R X) (Ds.map mark) .returning w':=fun h7=>by
  have:=QY (P:=P) (fn:=fn) fJ Ds G' h' w' h1 h2 h3 h5 h6 h7;clear h5 h6;have mono:∀(ds:List Nat) (w:World),LeavesInM (Fr none) 0 P fn a'.tmps (og Γ G R) (ds.map mark) .returning w->LeavesInM (Fr none) 0 P fn a'.tmps (xG Γ G h B R X) (ds.map mark) .returning w:=by
   intro ds;induction ds with
   |nil=>rintro w ⟨v,k1,k2⟩;exact⟨v,k1,.inl k2⟩
   |cons D ds ih=>
    rintro w ⟨k0,k⟩;rcases k with⟨r,w',k1,k2,k3⟩|⟨_,fv,cap,f,args,k1,_⟩
    .exact⟨k0,.inl ⟨r,w',k1,k2,ih w' k3⟩⟩
    .cases k1
  exact mono Ds w' this
 cases e with
 |ret=>show LeavesInM (Fr none) 0 P fn a'.tmps _ a'.defers .returning w';rw[h4];exact ret h7
 |normal=>show LeavesInM (Fr none) 0 P fn a'.tmps _ a'.defers .returning w';rw[h4];exact ret h7
 |panic ch=>
  obtain⟨u,rfl,hX,hl,hp⟩:=h7;show LeavesInM (Fr none) 0 P fn a'.tmps _ a'.defers (.panicking (jN u)) w';rw[h4];exact Ze Ds w' (Zd hI hX Ds G' h' w' h1 h2 h5 h6 hl hp)
 |_=>exact h7.elim
theorem AF{fn c args rs R X}(f0)(hf:P.funcs[f0]? =some fn)(hb:fn.body=some c)(hn:(fn.name== "runtime.NumGoroutine")=false)
  (hN:Nat.ble args.length fn.ntmps=true)(fJ:fn.results=rs.toArray)(hc:gW fn.ntmps c=true)(H:jP P Γ f0 B fn.ntmps c (Jv P rs B h R X) (nJ 0 args) h):dq P Γ B f0 args h R X:=
 akw hf hb hn hN fJ (pq c _ _ _ hc H)
def Nq(L:Nat)(li:LI)(B:Nat)(h0:AH)(R:AV->AH->Prop)(X:Value->Prop):Exit->Tm->AH->Prop
 | .panic c,_,h=>xI B h0 X c h
 |e,σ,h=>Cd L li R e σ h
theorem akx{L li h0 R X}:Nq L li B h0 R X .normal σ h=Cd L li R .normal σ h:=(rfl)
theorem aky{L li h0 R X}:Nq L li B h0 R X .ret σ h=Cd L li R .ret σ h:=(rfl)
theorem akz{L li fn args R X}(hf0:li.fn=some f0)(sy:P.funcs[f0]? =some fn)(hL:h[L]? =some (.loop .ready none li))(hN:∀p∈li.params.toList,p<li.N)(hlen:li.params.toList.length=args.length)
  (H:bw P Γ li.N li.assign (iP (fun σ' h'=>h'[L]? =some (.loop .ready none li)/\ee P Γ f0 li.N li.body (Nq L li B h R X) σ' (h'.set L (.loop .busy none li))) fun _ _ _=>False) (aS.qv li.params.toList args li.σ) h):
  uP P Γ B L args h R X:=fun G w vs b hI hv hb=>by
 obtain⟨b',l,k1,k2,k3,k4,k5,k6,k7,k8,k9,FU⟩:=hI.obj L _ hL;rw[hb]at k1;cases k1;have cj:vs.size=l.params.size:=by rw[k5,<-hv.1,<-hlen];simp
 have Nr:=FU f0 hf0;refine⟨l.fn,_,l.assign,l.body,run_yield k2 cj,fun r=>?_⟩;rw[Nr];refine akp sy ?_;have oh:∀l',some b=some l'->∃D,G.bJ l'=some D:=fun l' e=>by cases e;exact⟨_,k9⟩
 have ht:TR li.N G (aS.qv li.params.toList args li.σ) ((l.params.zip vs).foldl (fun tmps (p:Tmp×Value)=>tmps.setIfInBounds p.1 p.2) l.tmps):=by
  have:=TR.qv (N:=li.N) (G:=G) li.params.toList args vs.toList li.σ l.tmps hlen (by have:=hv.1;simpa using this) hN (fun j c v e e'=>by obtain⟨u,e1,e2⟩:=hv.get e;grind) k8
  rw[k5,<-Array.foldl_toList,Array.toList_zip];exact this
 rw[k6,k7];refine AD (D5 (H (some b) G w {tmps:=_,defers:=[]} oh hI ht)) fun e a1 w1 hp=>?_;obtain⟨G1,uD,h1,Ds,e1,e2,e3,e4,e5,e6,e7⟩:=hp;cases e with
 |normal=>
  obtain⟨tN,Jc⟩:=e7;have fI:=e1.ρ L b hb;obtain⟨b',l1,m1,m2,m3,m4,m5,m6,m7,m8,m9,m10⟩:=e2.obj L _ tN;rw[fI]at m1;cases m1;refine⟨_,run_beginRound m2 m3,?_⟩;have Ad:=e2.MT (st':= .busy) (pe':=l1.pending) tN fI m2;rw[m4]at Ad;simp only[List.append_nil]at e4;refine AD (Jc (some b) G1 _ a1 (fun l' e=>by cases e;exact⟨_,m9⟩) (by have:=Ad;simpa [m4]using this) e3) fun e a2 w2 uJ=>?_;obtain⟨G2,As,h2,Yr,f1,f2,f3,f4,f5,f6,f7⟩:=uJ;have fin:∀(jump:Option Code),h2[L]? =some (.loop .busy none li)->R (.bool jump.isNone) (h2.set L (.loop (if jump.isNone then .ready else .done) jump li))->
    ∃v w',(Instr.endRound b jump).run P w2= .ok v w'/\xG Γ G h B R X (.returned v) w':=fun jump oq hR=>by
   have jH:=f1.ρ L b fI;obtain⟨b',l2,n1,n2,_⟩:=f2.obj L _ oq;rw[jH]at n1;cases n1;exact⟨_,_,run_endRound jump n2,.inl ⟨_,G2,.bool jump.isNone,_,rfl,e1.trans f1,f2.MT oq jH n2,.bool _,hR⟩⟩
  cases e with
  |normal=>exact fin none f7.1 f7.2
  |ret=>exact fin (some .ret) f7.1 f7.2
  |exit id=>exact fin (some (.exit id)) f7.1 f7.2
  |goto t=>exact fin (some (.goto t)) f7.1 f7.2
  |panic c=>
   obtain⟨u,rfl,hX,hl,hp⟩:=f7;show F8 P _ (jN u) a2.defers w2;rw[f4,e4,<-List.map_append];refine Zd hI hX (Yr++Ds) G2 h2 w2 (e1.trans f1) f2 (fun D hD=>?_) ?_ hl hp
   .rcases List.mem_append.1 hD with hD|hD
    .exact⟨fun k=>(f5 D hD).1 (e1.ds D k),(f5 D hD).2⟩
    .exact⟨(e5 D hD).1,f1.ds D (e5 D hD).2.1,fun b e=>by obtain⟨b',e'⟩:=f1.ym b D e (e5 D hD).2.1;exact(e5 D hD).2.2 b' e'⟩
   .rw[List.nodup_append];refine⟨f6,e6,fun x hx y hy e=>?_⟩;subst e;exact(f5 x hx).1 (e5 x hy).2.1
  |outgrown=>exact f7.elim
 |_=>exact e7.elim
theorem Jx{L N' li fn σ' ps assign body args R X}(e:li=⟨N',σ',ps,assign,body,some f0⟩)(sy:P.funcs[f0]? =some fn)(hL:h[L]? =some (.loop .ready none li))(hN:FV N' ps=true)(hlen:ps.toList.length=args.length)
  (hm:P.follows .mixedOrders=true)(kz:gW N' assign=true)(FW:gW N' body=true)
  (H:fO P Γ N' assign (iP (fun σ h'=>h'[L]? =some (.loop .ready none li)/\jP P Γ f0 B N' body (Nq L li B h R X) σ (h'.set L (.loop .busy none li))) fun _ _ _=>False) (qv ps.toList args σ') h):uP P Γ B L args h R X:=by
 subst e;refine akz rfl sy hL (fun p hp=>?_) hlen ((tL hm _ _ _ _ kz H).mono fun e σ h he=>?_)
 .simp only[FV,List.all_eq_true]at hN;simp_all
 .cases e with
  |normal=>exact⟨he.1,pq _ _ _ _ FW he.2⟩
  |_=>exact he
end
section
variable {P:Program} {Γ:GG} {G:Gh} {h:AH} {w:World} {N B:Nat} {σ:Tm} {Q:Exit->Tm->AH->Prop} {f0:FuncId}
theorem akB{g ps assign body gf first iQ X}(hg:ev Γ σ g= .func gf first iQ)(hB:B<=h.length)
  (H:dq P Γ B gf (first++[.yield h.length]++iQ) (h++[.loop .ready none ⟨N,σ,ps,assign,body,some f0⟩]) (fun _ h'=>∃h2 st pe l,h'=h2++ .loop st pe ⟨N,σ,ps,assign,body,some f0⟩::l/\h2.length=h.length/\(∀(i:Nat) (st) (pe) (li),(h2++ .dead::l)[i]? =some (.loop st pe li)->∃qA qB li0,h[i]? =some (.loop qA qB li0))/\st≠ .busy/\uK P Γ N Q σ (h2++ .dead::l) pe) X)
  (hX:∀u,X u->Q (.panic (jN u)) σ (jO B h)):
  ee P Γ f0 N (.rangeFunc g ps assign body) Q σ h:=fun r G w a hr hI ht=>by
 have sM:=oH hI ht g;rw[hg]at sM;generalize qm:a.eval g=vf at sM;cases sM with
 |func f1 f2 f3 f4=>
 rename_i mj ml;obtain⟨np,qn⟩:=H;refine akn ?_;obtain⟨D,marks,w1,b,G1,jf,vZ,hle,⟨fI,jH,qq⟩,hmarks⟩:∃(D:Nat) (marks:List Nat) (w1:World) (b:Nat) (G1:Gh),
   (Instr.enterLoop f0 a.tmps ps assign body r).run P w= .ok (b,marks.map mark) w1/\
   Inv Γ G1 (h++[.loop .ready none ⟨N,σ,ps,assign,body,some f0⟩]) w1/\G.le G1/\(G1.ρ h.length=some b/\G1.bJ b=some D/\G.bJ b=none)/\
   ((marks=[]/\∃x,G.bJ x=some D)\/(marks=[D]/\¬G.ds D/\∀x,G1.bJ x=some D->x=b)):=by
  have xm:∀(G0:Gh) (b D:Nat),G0.ρ=G.ρ->G0.F=G.F->G0.ar=G.ar->G0.w0=G.w0->G0.bJ=G.bJ->(∀x,G.ds x->G0.ds x)->G.bJ b=none->((∃x,G.bJ x=some D)\/¬G.ds D)->G.le (G0.loop h.length b D):=
   fun G0 b D e1 e2 e3 e4 e5 e6 e7 e8=>⟨e4,fun i c e=>by
     have:=hI.ij i c e;simp only[Gh.loop,Gh.add,e1];rw[if_neg (by omega)];exact e,fun b o v e=>by simp only[Gh.loop,Gh.add,e2];exact e,fun i r e=>⟨r,by simp only[Gh.loop,Gh.add,e3];exact e,Nat.le_refl _,fun _=>rfl⟩,fun x D' e=>by
     simp only[Gh.loop,e5];grind,e6,fun x D' e ed=>by
     simp only[Gh.loop,e5]at e;grind⟩
  cases r with
  |none=>
   have h1:=hI.MU;have h2:=h1.Ce {state:= .ready,pending:=none,fn:=f0,tmps:=a.tmps,params:=ps,assign:=assign,body:=body,defers:=w.heap.size} (.inr rfl) rfl rfl (li:=⟨N,σ,ps,assign,body,some f0⟩) rfl rfl rfl
    ⟨ht.1,fun i=>by refine VR.same (G:=G) ?_ ?_ ?_ (ht.2 i)<;>rfl⟩ (fun f e=>by cases e;rfl)
   simp only[World.size_alloc]at h2;refine⟨w.heap.size,[w.heap.size],_,w.heap.size+1,_,run_enterLoop_outer f0 a.tmps ps assign body,h2,?_,⟨Gh.add_same _ _ _,by simp[Gh.loop],hI.qw (by omega)⟩,.inr ⟨rfl,hI.vY (Nat.le_refl _),fun x hx=>?_⟩⟩
   .exact xm _ _ _ rfl rfl rfl rfl rfl (fun _ h=> .inl h) (hI.qw (by omega)) (.inr (hI.vY (Nat.le_refl _)))
   .simp only[Gh.loop]at hx;split at hx
    .assumption
    .obtain⟨l,_,_,k⟩:=hI.lp x _ hx;exact absurd k (hI.vY (Nat.le_refl _))
  |some l0=>
   obtain⟨D,hD⟩:=hr l0 rfl;obtain⟨r0,k1,k2,k3⟩:=hI.lp l0 D hD;have h2:=hI.Ce {state:= .ready,pending:=none,fn:=f0,tmps:=a.tmps,params:=ps,assign:=assign,body:=body,defers:=r0.defers} (by rw[k2];exact k3) rfl rfl (li:=⟨N,σ,ps,assign,body,some f0⟩) rfl rfl rfl ht (fun f e=>by cases e;rfl);refine⟨r0.defers,[],_,w.heap.size,_,run_enterLoop_inner k1 f0 a.tmps ps assign body,h2,?_,⟨Gh.add_same _ _ _,by simp[Gh.loop],hI.qw (Nat.le_refl _)⟩,.inl ⟨rfl,l0,by rw[k2];exact hD⟩⟩;exact xm _ _ _ rfl rfl rfl rfl rfl (fun _ h=>h) (hI.qw (Nat.le_refl _)) (.inl ⟨l0,by rw[k2];exact hD⟩)
 have ql:b9 G1 (first++[.yield h.length]++iQ) ((mj++ #[.func (.yield b) #[] #[]])++ml):=
  b9.append (b9.append ((show b9 G first mj from⟨f1,f3⟩).mono hle) (b9.one (VR.yield fI))) ((show b9 G iQ ml from⟨f2,f4⟩).mono hle)
 refine⟨b,marks.map mark,w1,{target:= .fn (.func gf) ml,args:=mj++ #[.func (.yield b) #[] #[]]},w1,gf,(mj++ #[.func (.yield b) #[] #[]])++ml,w1,jf,?_,?_,?_⟩
 .simp only[resolve,qm];simp[Deferred.ofValue,Act.eval]
 .simp[invoke,np]
 refine CallsIn.mono (w7.2 (qn G1 w1 _ vZ ql)) fun e w3 oN=>?_;rcases oN with oN|⟨u,G2,rfl,k1,k2,_,hXu⟩;rotate_left
 .obtain⟨G3,q1,q2,q3,q4⟩:=hI.raise (B:=B) (hle.trans k1) k2 (by rw[y3];simp) (fun i hi=>by rw[AB hi,List.getElem?_append_left (by omega)]);have tF:G2.ds D:=by obtain⟨_,_,_,k⟩:=vZ.lp b D jH;exact k1.ds D k
  refine⟨G3,σ,jO B h,marks,q1,q2,ht.mono q1,rfl,fun D0 h0=>?_,by grind,hX u hXu⟩;rcases hmarks with⟨rfl,_⟩|⟨rfl,n1,n2⟩
  .cases h0
  .rw[List.mem_singleton]at h0;subst h0;refine⟨n1,by rw[q4];exact tF,fun x hx=>?_⟩;rw[q3]at hx;obtain⟨_,_,_,k⟩:=hI.lp x _ hx;exact n1 k
 obtain⟨v,G2,av,h',rfl,k1,k2,_,h2,st,pe,l,rfl,hlen,yP,fC,xq⟩:=oN;have hL:(h2++ .loop st pe ⟨N,σ,ps,assign,body,some f0⟩::l)[h.length]? =some (.loop st pe ⟨N,σ,ps,assign,body,some f0⟩):=by rw[<-hlen];simp
 obtain⟨b',l3,m1,m2,m3,m4,m5,m6,m7,m8,m9,m10⟩:=k2.obj h.length _ hL;have xr:=k1.ρ _ _ fI;rw[xr]at m1;cases m1;refine⟨l3.pending,_,run_endLoop m2 (by rw[m3];exact fC),?_⟩;have lb:=Jb (w:=w3) (o:= .loop {l3 with state:= .exhausted}) (uj m2);have hA:=k2.write (w':=w3.putObj b (.loop {l3 with state:= .exhausted})) xr putObj_size rfl rfl rfl (fun k hk=>World.putObj_heap_other hk) .dead trivial (fun D0 Rr=>by grind) (by rw[m2];simp) (by rw[hL];simp);rw[<-hlen,List.set_append_right _ _ (Nat.le_refl _),Nat.sub_self,List.set_cons_zero]at hA;have gM:=hle.trans k1;obtain⟨del,Rs,xv,DO⟩:∃del:Nat->Prop,del b/\(∀x,(G.bJ x).isSome=true->¬del x)/\∀D0∈marks,¬G.ds D0/\G2.ds D0/\∀x,G2.bJ x=some D0->del x:=by
  have tF:G2.ds D:=by obtain⟨_,_,_,k⟩:=vZ.lp b D jH;exact k1.ds D k
  rcases hmarks with⟨rfl,_⟩|⟨rfl,n1,n2⟩
  .refine⟨fun x=>x=b,rfl,fun x hx e=>?_,fun D0 h0=>by cases h0⟩;subst e;rw[qq]at hx;cases hx
  .refine⟨fun x=>x=b\/G2.bJ x=some D,.inl rfl,fun x hx e=>?_,fun D0 h0=>?_⟩
   .rcases e with rfl|e
    .rw[qq]at hx;cases hx
    .cases nh:G.bJ x with
     |none=>rw[nh]at hx;cases hx
     |some D'=>
      have:=gM.bJ x D' nh;rw[e]at this;cases this;obtain⟨_,_,_,k⟩:=hI.lp x D nh;exact n1 k
   .rw[List.mem_singleton]at h0;subst h0;grind
 have iF:marks.Nodup:=by rcases hmarks with⟨rfl,_⟩|⟨rfl,_⟩<;>simp
 open Classical in
 have hC:=hA.DN (fun x=>if del x then none else G2.bJ x) G2.ds (fun i st pe li c l e dI hl oh=>by obtain⟨qA,qB,li0,e⟩:=yP i st pe li e;obtain⟨c',l',q1,q2,q3,q4,q5,q6,q7,q8,q9,MW⟩:=hI.obj i _ e;have:=gM.ρ i c' q1;rw[dI]at this;cases this;rw[if_neg (xv c (by rw[q9];rfl))];exact oh)
  (fun x D0 e=>by
   split at e
   .cases e
   .obtain⟨l,q1,q2,q3⟩:=hA.lp x D0 e;exact⟨⟨l,q1,q2,q3⟩,hA.jx x D0 e⟩)
  hA.gu
 open Classical in
 have xx:G.le {G2 with bJ:=fun x=>if del x then none else G2.bJ x,ds:=G2.ds}:=
  ⟨gM.w0,gM.ρ,gM.F,gM.ar,fun x D0 e=>by
   show(if del x then none else G2.bJ x)=some D0;rw[if_neg (xv x (by rw[e];rfl))];exact gM.bJ x D0 e,gM.ds,fun x D0 e ed=>by
   have e':(if del x then none else G2.bJ x)=some D0:=e;split at e'
   .cases e'
   .exact gM.ym x D0 e' ed⟩
 have xy:∀G':Gh,G'.ρ=G2.ρ->G'.F=G2.F->G'.ar=G2.ar->TR N G' σ a.tmps:=fun G' e1 e2 e3=>
  ⟨ht.1,fun i=>VR.same e1 e2 e3 ((ht.2 i).mono gM)⟩
 have nG:∀(G':Gh),G'.ds=G2.ds->(∀x,G'.bJ x=if del x then none else G2.bJ x)->∀D0∈marks,¬G.ds D0/\G'.ds D0/\∀x,G'.bJ x≠some D0:=fun G' e1 e2 D0 h0=>by
  obtain⟨q1,q2,q3⟩:=DO D0 h0;refine⟨q1,by rw[e1];exact q2,fun x e=>?_⟩;rw[e2]at e;split at e
  .cases e
  .rename_i hn;exact hn (q3 x e)
 generalize w3.putObj b (.loop {l3 with state:= .exhausted})=W at hC|-;rw[m4];cases pe with
 |none=>exact⟨_,σ,h2++ .dead::l,marks,xx,hC,xy _ rfl rfl rfl,rfl,nG _ rfl (fun _=>rfl),iF,xq⟩
 |some c=>exact bw.after (show bw P Γ N c Q σ (h2++ .dead::l)from xq) hr xx (nG _ rfl (fun _=>rfl)) iF hC (a:={a with defers:=marks.map mark++a.defers}) (xy _ rfl rfl rfl) rfl
theorem R0{g ps assign body gf first iQ X}(hg:ev Γ σ g= .func gf first iQ)(hB:B<=h.length)
  (H:∀li,li=⟨N,σ,ps,assign,body,some f0⟩->dq P Γ B gf (first++[.yield h.length]++iQ) (h++[.loop .ready none li]) (fun _ h'=>∃h2 st pe l,h'=h2++ .loop st pe li::l/\h2.length=h.length/\(∀(i:Nat) (st) (pe) (li),(h2++ .dead::l)[i]? =some (.loop st pe li)->∃qA qB li0,h[i]? =some (.loop qA qB li0))/\st≠ .busy/\uK P Γ N Q σ (h2++ .dead::l) pe) X)
  (hX:∀u,X u->Q (.panic (jN u)) σ (jO B h)):ee P Γ f0 N (.rangeFunc g ps assign body) Q σ h:=akB hg hB (H _ rfl) hX
mutual
theorem Ns:∀(a:AV) {u:Value},kD a=some u->VR G a u
 | .int k n,u,e=>by cases e;exact .int k n
 | .bool b,u,e=>by cases e;exact .bool b
 | .str s,u,e=>by cases e;exact .str s
 | .iface t v,u,e=>by rw[kD]at e;obtain⟨v',h1,rfl⟩:=Option.map_eq_some_iff.1 e;exact .iface t (Ns v h1)
 | .agg cs,u,e=>by rw[kD]at e;obtain⟨l,h1,rfl⟩:=Option.map_eq_some_iff.1 e;obtain⟨k1,k2⟩:=RU h1;refine .agg (by simpa using k1) fun j c ej=>?_;obtain⟨v,q1,q2⟩:=k2 j c ej;have:=Zf cs h1 j c v ej q2;simp_all
 | .top,u,e=>by cases e
 | .ptr _,u,e=>by cases e
 | .bS _,u,e=>by cases e
 | .sl _ _,u,e=>by cases e
 | .ms ..,u,e=>by cases e
 | .map _,u,e=>by cases e
 | .func ..,u,e=>by cases e
 | .yield _,u,e=>by cases e
 | .nilFunc,u,e=>by cases e
 | .nilIface,u,e=>by cases e
 | .tuple _,u,e=>by cases e
theorem Zf:∀(l:List AV) {r:List Value},rP l=some r->∀(j:Nat) (c:AV) (v:Value),l[j]? =some c->r[j]? =some v->VR G c v
 |[],r,e,j,c,v,ej,_=>by simp at ej
 |a::l,r,e,j,c,v,ej,ev=>by
  rw[rP]at e;split at e
  .rename_i v' r' q1 q2;cases e;cases j with
   |zero=>simp at ej ev;subst ej ev;exact Ns a q1
   |succ j=>exact Zf l q2 j c v (by simpa using ej) (by simpa using ev)
  .cases e
end
def Jy:Option Value->FrameMode
 |none=> .returning
 |some u=> .panicking (jN u)
def D7:Option Value->FrameMode
 |none=> .returning
 |some u=> .panicking [{v:=u,recovered:=true}]
theorem akE(p):settle (D7 p)= .returning:=by cases p<;>rfl
def nR(P:Program)(Γ:GG)(g:FuncId)(args:List AV)(h:AH)(p:Option Value)(R:AH->Prop):Prop:=
 (∀vs w,(callFunc g vs).run P w= .ok (.enter g vs) w)/\∀(G:Gh) (w:World) (vs:Array Value),Inv Γ G h w->b9 G args vs->
  CallsDIn (Fr none) 0 P g vs (Jy p) w fun e u' w'=>(∃v,e= .returned v)/\u'=D7 p/\∃G' h',G.le G'/\Inv Γ G' h' w'/\R h'
def R3(P:Program)(Γ:GG)(σ:Tm)(h:AH)(op:Op)(K:AV->AH->Prop):Prop:=
 match Me P Γ σ h op K with
 |some p=>p
 |none=>dS P Γ σ h op K
theorem akF(hI:Inv Γ G h w){a:Act}(ht:TR N G σ a.tmps){o K}(H:R3 P Γ σ h o.op K):wZ P Γ G w (execOp a.eval o) K:=by
 unfold R3 at H;split at H
 .rename_i p hp;exact(W9 hI ht hp H).2
 .exact WQ hI ht H
def AG(P:Program)(Γ:GG)(K:Tm->AH->Prop):List Oper->Tm->AH->Prop
 |[],σ,h=>K σ h
 |o::rest,σ,h=>match o.guard with
  |none=>R3 P Γ σ h o.op fun v h=>AG P Γ K rest (put o.dst v σ) h
  |some _=>False
def isRec(o:Oper):Bool:=o.guard.isNone&&(match o.op with
 | .call c=>(match c.callee with
  | .builtin .recover=>true
  |_=>false)
 |_=>false)
theorem Zg{ops:Array Oper}{cs QS}{G0:Gh}{K}(hQ:∀G σ h a w,G0.le G->Inv Γ G h w->TR N G σ a.tmps->a.defers=[]->K σ h->QS .normal a cs w):
  ∀(l:List Nat) (σ) (h) (G) (w) (a),(∀i∈l,∀o,ops[i]? =some o->∀x,o.dst=some x->x<N)->G0.le G->Inv Γ G h w->TR N G σ a.tmps->a.defers=[]->AG P Γ K (l.filterMap (ops[·]?)) σ h->wpOpsSIn (Fr none) 0 P ops QS l a cs w:=by
 intro l;induction l with
 |nil=>intro σ h G w a _ hle hI ht hd H;exact hQ G σ h a w hle hI ht hd H
 |cons i rest ih=>
  intro σ h G w a kx hle hI ht hd H;rw[wpOpsSIn];cases ho:ops[i]? with
  |none=>
   grind
  |some o=>
   simp only[List.filterMap_cons,ho,AG]at H;have ld:=kx i (List.mem_cons_self ..) o ho;refine⟨fun _ _=>trivial,?_⟩;split at H
   .rename_i hg;have hw:Region.wanted o (yielded ops a.tmps)=true:=by unfold Region.wanted;rw[hg]
    simp only[hw,if_true];obtain⟨n,u,w',G',av,h',k1,k2,k3,k4,k5,k6⟩:=akF hI ht H;have go:=ih _ h' G' w' (a.put o.dst u) (fun j hj=>kx j (List.mem_cons_of_mem _ hj)) (hle.trans k3) k4 ((ht.mono k3).put ld k5) ((put_defers a o.dst u).trans hd) k6;grind
   .exact H.elim
theorem Zi{G0:Gh}{cs:List Frame}:∀(Ds:List Nat) (G:Gh) (w:World) (fr:Frame),G0.le G->Inv Γ G h w->(∀D∈Ds,¬G0.ds D/\G.ds D/\∀b,G.bJ b≠some D)->Ds.Nodup->fr.mode≠ .run->fr.defers=Ds.map mark->
  ∃G' w',G0.le G'/\Inv Γ G' h w'/\StepsIn (Machine.fenced P (Fr none)) P (lone fr cs w) (lone {fr with defers:=[]} cs w')
 |[],G,w,fr,hle,hI,_,_,_,hd=>⟨G,w,hle,hI,by
   have:({fr with defers:=[]}:Frame)=fr:=by have hd:fr.defers=[]:=hd;rw[<-hd]
   rw[this];exact .refl _⟩
 |D::Ds,G,w,fr,hle,hI,hD,iF,hm,hd=>by obtain⟨d1,d2,d3⟩:=hD D (List.mem_cons_self ..);rw[List.nodup_cons]at iF;obtain⟨G',w',k1,k2,k3⟩:=Zi (cs:=cs) Ds _ _ {fr with defers:=[]++Ds.map mark} (Gh.Mj hle d1) (hI.Mi d2 d3) (fun D' FK=>by grind) iF.2 hm rfl;exact⟨G',w',k1,k2,.head (lh _) (step_collected hm hd rfl (run_takeDeferred (hI.gu D d2).1)) k3⟩
def Jz(Γ:GG)(G:Gh)(c1:Frame)(cs:List Frame)(R:AH->Prop):Exit->Act->List Frame->World->Prop
 | .normal,a,AI,w| .ret,a,AI,w=>AI=c1::cs/\∃(G':Gh) (h':AH) (Ds:List Nat),G.le G'/\Inv Γ G' h' w/\a.defers=Ds.map mark/\(∀D∈Ds,¬G.ds D/\G'.ds D/\∀b,G'.bJ b≠some D)/\Ds.Nodup/\R h'
 |_,_,_,_=>False
theorem Zj{f fn c args u u1 R}(hf:P.funcs[f]? =some fn)(hb:fn.body=some c)(fJ:fn.results= #[])
  (H:∀(c0) (cs),c0.mode=u->c.wpSIn (Fr none) 0 P (Jz Γ G {c0 with mode:=u1} cs R) {tmps:=args++Array.replicate (fn.ntmps-args.size) undef,defers:=[]} (c0::cs) w):
  CallsDIn (Fr none) 0 P f args u w fun e u' w'=>(∃v,e= .returned v)/\u'=u1/\∃G' h',G.le G'/\Inv Γ G' h' w'/\R h':=by
 refine⟨trivial,fun c0 cs hu L9=>?_⟩;let b:Frame:={(default:Frame)with fn:=f,kind:= .deferred,roundOf:=none};have np:Frame.enter P f args .deferred=b.atR {tmps:=args++Array.replicate (fn.ntmps-args.size) undef,defers:=[]} [.code c]:=by simp[Frame.enter,Frame.atR,hf,hb,b]
 obtain⟨e,a',AI,w',hl,hq,dU⟩:=H c0 cs hu b [] rfl rfl trivial L9;rw[<-np]at dU;have oN:∀(t:Array Value) (w:World),(results fn t).run P w= .ok (.tuple #[]) w:=fun t w=>by rw[Xc,fJ];simp
 have fin:∀(todo:List Item),(AI={c0 with mode:=u1}::cs/\∃(G':Gh) (h':AH) (Ds:List Nat),G.le G'/\Inv Γ G' h' w'/\a'.defers=Ds.map mark/\(∀D∈Ds,¬G.ds D/\G'.ds D/\∀b,G'.bJ b≠some D)/\Ds.Nodup/\R h')->
   StepsIn (Machine.fenced P (Fr none)) P (lone (Frame.enter P f args .deferred) (c0::cs) w) (lone {b.atR a' todo with mode:= .returning} AI w')->
   ∃e u' w' fr,((∃v,e=Ending.returned v)/\u'=u1/\∃G' h',G.le G'/\Inv Γ G' h' w'/\R h')/\ComesIn (Machine.fenced P (Fr none)) P (lone (Frame.enter P f args .deferred) (c0::cs) w) (lone fr ({c0 with mode:=u'}::cs) w') e/\fr.kind= .deferred/\fr.fn=f/\fr.going P w' e:=fun todo hq hs=>by
  obtain⟨rfl,G',h',Ds,k1,k2,k3,k4,k5,k6⟩:=hq;obtain⟨G2,w2,q1,q2,q3⟩:=Zi (P:=P) (cs:={c0 with mode:=u1}::cs) Ds G' w' {b.atR a' todo with mode:= .returning} k1 k2 k4 k5 (by simp) k3;exact⟨.returned (.tuple #[]),u1,w2,_,⟨⟨_,rfl⟩,rfl,G2,h',q1,q2,k6⟩,StepsIn.trans hs q3,rfl,rfl,rfl,rfl,fn,hf,oN _ _⟩
 cases e with
 |normal=>exact fin [] hq (StepsIn.trans dU (.one (lh _) (stepR_end rfl)))
 |ret=>obtain⟨todo,hs⟩:=dU.1 rfl;exact fin todo hq hs
 |_=>exact hq.elim
def xK:Option (AV×Value)->AV
 |some q=>q.1
 |none=> .nilIface
theorem F9{g fn id o ops c args R}(p)(hp:∀q,p=some q->kD q.1=some q.2)(hf:P.funcs[g]? =some fn)(hb:fn.body=some (.seq (.region id (o::ops).toArray false) c))(hn:(fn.name== "runtime.NumGoroutine")=false)
  (hN:Nat.ble args.length fn.ntmps=true)(fJ:fn.results= #[])(hd:mi fn.ntmps (o::ops).toArray=true)(hm:P.follows .mixedOrders=true)(hc:gW fn.ntmps c=true)(ho:isRec o=true)
  (H:AG P Γ (fun σ h=>fO P Γ fn.ntmps c (fun e _ h=>(e= .ret\/e= .normal)/\R h) σ h) ops (put o.dst (xK p) (nJ 0 args)) h):
  nR P Γ g args h (p.map (·.2)) R:=by
 refine⟨fun vs w=>xb hf hb hn vs w,fun G w vs hI hv=>Zj hf hb fJ fun c0 cs sQ=>?_⟩;have ht:=FJ (N:=fn.ntmps) hv (Nat.le_of_ble_eq_true hN);have kx:∀(i:Nat) (o':Oper),(o::ops).toArray[i]? =some o'->∀x,o'.dst=some x->x<fn.ntmps:=fun i o' iG x hx=>by have:=List.all_eq_true.1 hd o' (by grind);simp_all
 simp only[isRec,Bool.and_eq_true,Option.isNone_iff_eq_none]at ho;obtain⟨hg,tI⟩:=ho;refine wpSIn_seq (wpSIn_region ?_);obtain⟨c1,kz⟩:∃c1:Frame,c1={c0 with mode:=D7 (p.map (·.2))}:=⟨_,rfl⟩;rw[<-kz];have R4:List.range (o::ops).toArray.size=0::(List.range ops.length).map (·+1):=by simp[List.range_succ_eq_map]
 rw[R4,wpOpsSIn];have h0:(o::ops).toArray[0]? =some o:=by simp
 rw[h0];refine⟨fun _ _=>trivial,?_⟩;have hw:∀y,Region.wanted o y=true:=fun y=>by unfold Region.wanted;rw[hg]
 simp only[hw,if_true];have jf:∀(a:Act),(execOp a.eval o).run P w= .ok .recover w:=fun a=>by
  split at tI
  .rename_i cl dG;split at tI
   .rename_i yH;simp[execOp,dG,resolve,yH,invoke,builtin]
   .cases tI
  .cases tI
 rw[jf];have R5:((List.range ops.length).map (·+1)).filterMap ((o::ops).toArray[·]?)=ops:=by
  rw[List.filterMap_map];have:(fun i=>(o::ops).toArray[i]?)∘(·+1)=fun i=>ops[i]? :=by funext i;simp
  rw[this];exact ID ops
 have fin:∀(u:Value),VR G (xK p) u->
   wpOpsSIn (Fr none) 0 P (o::ops).toArray (Exit.thenS (c.wpSIn (Fr none) 0 P (Jz Γ G c1 cs R)) (Jz Γ G c1 cs R))
    ((List.range ops.length).map (·+1)) (({tmps:=vs++Array.replicate (fn.ntmps-vs.size) undef,defers:=[]}:Act).put o.dst u) (c1::cs) w:=fun u hu=>by
  refine Zg (N:=fn.ntmps) (G0:=G) (K:=fun σ h=>fO P Γ fn.ntmps c (fun e _ h=>(e= .ret\/e= .normal)/\R h) σ h) (fun G1 uD h1 a1 w1 q1 q2 q3 q4 q5=>?_) _ _ h G w _ (fun i _ o' iG x hx=>kx i o' iG x hx) (Gh.le.refl G) hI ((ht.put (d:=o.dst) (fun x hx=>kx 0 o h0 x hx) hu)) (put_defers _ _ _) (by rw[R5];exact H);have q6:=tL hm c _ uD h1 hc q5;refine wpSIn_of_wpIn rfl (wpIn_mono (q6 none G1 w1 a1 (fun l e=>by cases e) q2 q3) fun e a2 w2 hp=>?_);rw[q4]at hp;obtain⟨G2,As,h2,Ds,f1,f2,f3,f4,f5,f6,f7,f8⟩:=hp;rw[List.append_nil]at f4;have:c1::cs=c1::cs/\∃(G':Gh) (h':AH) (Ds:List Nat),G.le G'/\Inv Γ G' h' w2/\a2.defers=Ds.map mark/\(∀D∈Ds,¬G.ds D/\G'.ds D/\∀b,G'.bJ b≠some D)/\Ds.Nodup/\R h':=
   ⟨rfl,G2,h2,Ds,q1.trans f1,f2,f4,fun D hD=>⟨fun k=>(f5 D hD).1 (q1.ds D k),(f5 D hD).2⟩,f6,f8⟩
  rcases f7 with rfl|rfl
  .exact this
  .exact this
 cases p with
 |none=>
  have sQ:c0.mode= .returning:=sQ;have e1:recoverD (c0::cs)=none:=by simp[recoverD,sQ]
  have e2:c1=c0:=by rw[kz];show({c0 with mode:=FrameMode.returning}:Frame)=c0;rw[<-sQ]
  rw[e1];have:=fin .nilIface .nilIface;rw[e2]at this|-;exact this
 |some q=>
  have sQ:c0.mode= .panicking (jN q.2):=sQ;have e1:recoverD (c0::cs)=some (q.2,c1::cs):=by rw[kz];simp[recoverD,sQ,jN,D7]
  rw[e1];exact fin q.2 (Ns q.1 (hp q rfl))
end
section
variable {P:Program} {Γ:GG} {G:Gh} {h:AH} {w:World} {N B:Nat} {σ:Tm} {Q:Exit->Tm->AH->Prop} {f0:FuncId}
def lP(P:Program)(Γ:GG)(K:Option (FuncId×List AV)->Tm->AH->Prop):List Oper->Option (FuncId×List AV)->Tm->AH->Prop
 |[],d,σ,h=>K d σ h
 |o::rest,d,σ,h=>match o.guard with
  |none=>(match o.op with
   | .defer c=>(match c.callee,d with
    | .value f,none=>(match ev Γ σ f with
     | .func g first cap=>lP P Γ K rest (some (g,first++c.args.toList.map (ev Γ σ)++cap)) (put o.dst (.tuple []) σ) h
     |_=>False)
    |_,_=>False)
   |_=>pQ P Γ o (fun v σ h=>lP P Γ K rest d (put o.dst v σ) h) σ h)
  |some _=>False
def DR(G:Gh)(ds:List Deferred):Option (FuncId×List AV)->Prop
 |none=>ds=[]
 |some (g,cD)=>∃vs vc,ds=[{target:= .fn (.func g) vc,args:=vs}]/\b9 G cD (vs++vc)
theorem DR.mono{G'}(hg:G.le G'){ds d}(H:DR G ds d):DR G' ds d:=by
 cases d with
 |none=>exact H
 |some q=>obtain⟨vs,vc,h1,h2⟩:=H;exact⟨vs,vc,h1,h2.mono hg⟩
theorem Nt{ops:Array Oper}{QW}{G0:Gh}{K}(hQ:∀d G σ h a w,G0.le G->Inv Γ G h w->TR N G σ a.tmps->DR G a.defers d->K d σ h->QW .normal a w):
  ∀(l:List Nat) (d) (σ) (h) (G) (w) (a),(∀i∈l,∀o,ops[i]? =some o->∀x,o.dst=some x->x<N)->G0.le G->Inv Γ G h w->TR N G σ a.tmps->DR G a.defers d->lP P Γ K (l.filterMap (ops[·]?)) d σ h->wpOpsIn (Fr none) 0 P ops QW l a w:=by
 intro l;induction l with
 |nil=>intro d σ h G w a _ hle hI ht hd H;exact hQ d G σ h a w hle hI ht hd H
 |cons i rest ih=>
  intro d σ h G w a kx hle hI ht hd H;rw[wpOpsIn_cons];unfold wpOpIn;cases ho:ops[i]? with
  |none=>
   grind
  |some o=>
   simp only[List.filterMap_cons,ho,lP]at H;have ld:=kx i (List.mem_cons_self ..) o ho;split at H
   .rename_i hg;have hw:∀y,Region.wanted o y=true:=fun y=>by unfold Region.wanted;rw[hg]
    simp only[hw,if_true];split at H
    .rename_i c tI;split at H
     .rename_i f yH;split at H
      .rename_i g first cap hf
       have pJ:=oH hI ht f;have ql:=Dy hI ht c.args;rw[hf]at pJ;generalize qm:a.eval f=vf at pJ;cases pJ with
       |func h1 h2 h3 h4=>
        rename_i mj ml;refine⟨fun _ _=>trivial,?_⟩;show o.uponIn (Fr none) 0 P a _ _ ((o.semAt none a.eval).run P w);have jf:(o.semAt none a.eval).run P w= .ok (.defer {target:= .fn (.func g) ml,args:=mj++c.args.map a.eval}) w:=by rw[Oper.semAt_none];simp[execOp,tI,resolve,yH,qm,Deferred.ofValue]
        rw[jf,Oper.uponIn_defer];have mn:a.defers=[]:=hd;refine ih _ _ h G w _ (fun j hj=>kx j (List.mem_cons_of_mem _ hj)) hle hI (TR.put (a:={a with defers:=_::a.defers}) ht ld (VR.undef G)) ?_ H;rw[put_defers];exact⟨_,_,by rw[mn],b9.append (b9.append ⟨h1,h3⟩ ql) ⟨h2,h4⟩⟩
      .exact H.elim
     .exact H.elim
    .exact Iz hI ht H fun u v G' h' w' k1 k2 k3 k4=>
      ih d _ h' G' w' _ (fun j hj=>kx j (List.mem_cons_of_mem _ hj)) (hle.trans k1) k2 ((ht.mono k1).put ld k3) (by rw[put_defers];exact hd.mono k1) k4
   .exact H.elim
def AJ(P:Program)(Γ:GG)(rs:List ResultVar)(R:AV->AH->Prop)(g:FuncId)(cD:List AV):Exit->Tm->AH->Prop
 | .ret,σ,h=>nR P Γ g cD h none fun h'=>lE P σ h' rs (vW R h')
 | .normal,σ,h=>nR P Γ g cD h none fun h'=>lE P σ h' rs (vW R h')
 | .panic c,σ,h=>∃av u,c=jN u/\kD av=some u/\nR P Γ g cD h (some u) fun h'=>lE P σ h' rs (vW R h')
 |_,_,_=>False
theorem akG{fn t G0 R rs g cD vs vc p}(fJ:fn.results=rs.toArray):∀(Ds:List Nat) (G) (w),G0.le G->Inv Γ G h w->TR N G σ t->(∀D∈Ds,¬G0.ds D/\G.ds D/\∀b,G.bJ b≠some D)->Ds.Nodup->
  b9 G cD (vs++vc)->nR P Γ g cD h p (fun h'=>lE P σ h' rs (vW R h'))->LeavesInM (Fr none) 0 P fn t (og Γ G0 R) (Ds.map mark++[{target:= .fn (.func g) vc,args:=vs}]) (Jy p) w:=by
 have JB:Jy p≠ .run:=by cases p<;>simp[Jy]
 intro Ds;induction Ds with
 |nil=>
  intro G w hle hI ht _ _ hv H;obtain⟨np,qn⟩:=H;refine⟨JB,.inr ⟨fun e=>by simp[Fr]at e,.func g,vc,g,vs++vc,rfl,by simp[invoke,np],fun _ _=>trivial,?_⟩⟩;refine CallsDIn.mono (qn G w _ hI hv) fun e u' w' hr=>?_;obtain⟨⟨v,rfl⟩,rfl,G',h',k1,k2,k3⟩:=hr;show LeavesInM (Fr none) 0 P fn t (og Γ G0 R) [] (settle (D7 p)) w';rw[akE];obtain⟨u,av,q1,q2,q3⟩:=Xd (P:=P) k2 (ht.mono k1) fJ (K:=fun v=>R v h') k3;exact⟨u,q1,u,G',av,h',rfl,hle.trans k1,k2,q2,q3⟩
 |cons D Ds ih=>
  intro G w hle hI ht hD iF hv H;obtain⟨d1,d2,d3⟩:=hD D (List.mem_cons_self ..);refine⟨JB,.inl ⟨D,_,rfl,run_takeDeferred (hI.gu D d2).1,?_⟩⟩;have IJ:=Gh.Mj hle d1;have eA:=hI.Mi d2 d3;rw[List.nodup_cons]at iF;refine ih _ _ IJ eA ⟨ht.1,fun i=>?_⟩ (fun D' FK=>?_) iF.2 ⟨hv.1,fun j c e=>?_⟩ H
  .refine VR.same (G:=G) ?_ ?_ ?_ (ht.2 i)<;>rfl
  .grind
  .refine VR.same (G:=G) ?_ ?_ ?_ (hv.2 j c e)<;>rfl
theorem Zk{fn id ops c rs R}(fJ:fn.results=rs.toArray)(hd:mi fn.ntmps ops.toArray=true)(hc:gW fn.ntmps c=true)
  (H:lP P Γ (fun d σ h=>∃g cD,d=some (g,cD)/\jP P Γ f0 B fn.ntmps c (AJ P Γ rs R g cD) σ h) ops none σ h){G0 G w a}(hle:G0.le G)(hI:Inv Γ G h w)(ht:TR fn.ntmps G σ a.tmps)(hdf:a.defers=[]):
  pj P f0 none (.seq (.region id ops.toArray false) c) (bodyPostM (Fr none) 0 P fn (og Γ G0 R)) a w:=by
 refine F7 (D5 (wpIn_region ?_));refine Nt (N:=fn.ntmps) (G0:=G0) (K:=fun d σ h=>∃g cD,d=some (g,cD)/\jP P Γ f0 B fn.ntmps c (AJ P Γ rs R g cD) σ h) (fun d G1 uD h1 a1 w1 q1 q2 q3 q4 q5=>?_) (List.range ops.toArray.size) none _ h G w _ (fun i _ o ho x hx=>by have:=List.all_eq_true.1 hd o (by simpa using Array.mem_of_getElem? ho);simp_all) hle hI ht hdf (by rw[Dz];exact H)
 obtain⟨g,cD,rfl,q5⟩:=q5;obtain⟨vs1,vc1,q4,q6⟩:=q4;refine AD (pq c _ uD h1 hc q5 none G1 w1 a1 (fun l e=>by cases e) q2 q3) fun e a2 w2 hp=>?_;rw[q4]at hp;obtain⟨G2,As,h2,Ds,f1,f2,f3,f4,f5,f6,f7⟩:=hp;have nG:∀D∈Ds,¬G0.ds D/\G2.ds D/\∀b,G2.bJ b≠some D:=fun D hD=>⟨fun k=>(f5 D hD).1 (q1.ds D k),(f5 D hD).2⟩;have fin:∀p,nR P Γ g cD h2 p (fun h'=>lE P As h' rs (vW R h'))->LeavesInM (Fr none) 0 P fn a2.tmps (og Γ G0 R) a2.defers (Jy p) w2:=fun p hp=>by rw[f4];exact akG fJ Ds G2 w2 (q1.trans f1) f2 f3 nG f6 (q6.mono f1) hp
 cases e with
 |ret=>exact fin none f7
 |normal=>exact fin none f7
 |panic ch=>obtain⟨av,u,rfl,k1,k2⟩:=f7;exact fin (some u) k2
 |_=>exact f7.elim
theorem D8{fn R6 id AK ops c args rs R}(B f0)(hf:P.funcs[f0]? =some fn)(hb:fn.body=some (.seq (.region R6 AK.toArray false) (.seq (.region id ops.toArray false) c)))(hn:(fn.name== "runtime.NumGoroutine")=false)
  (hN:Nat.ble args.length fn.ntmps=true)(fJ:fn.results=rs.toArray)(AL:mi fn.ntmps AK.toArray=true)(hd:mi fn.ntmps ops.toArray=true)(hc:gW fn.ntmps c=true)
  (H:lP P Γ (fun d σ h=>d=none/\lP P Γ (fun d σ h=>∃g cD,d=some (g,cD)/\jP P Γ f0 B fn.ntmps c (AJ P Γ rs R g cD) σ h) ops none σ h) AK none (nJ 0 args) h):az P Γ f0 args h R:=by
 refine⟨fun vs w=>xb hf hb hn vs w,fun G w vs hI hv=>?_⟩;refine(w7 (r:=none) (n:=0)).1 (RZ hf hb (F7 (D5 (wpIn_region ?_))));refine Nt (N:=fn.ntmps) (G0:=G) (K:=fun d σ h=>d=none/\lP P Γ (fun d σ h=>∃g cD,d=some (g,cD)/\jP P Γ f0 B fn.ntmps c (AJ P Γ rs R g cD) σ h) ops none σ h) (fun d G1 uD h1 a1 w1 q1 q2 q3 q4 q5=>?_) (List.range AK.toArray.size) none _ h G w _ (fun i _ o ho x hx=>by have:=List.all_eq_true.1 AL o (by simpa using Array.mem_of_getElem? ho);simp_all) (Gh.le.refl G) hI (FJ hv (Nat.le_of_ble_eq_true hN)) rfl (by rw[Dz];exact H)
 obtain⟨rfl,q5⟩:=q5;exact Zk fJ hd hc q5 q1 q2 q3 q4
@[go_sem] theorem aAS{rs h0 R X}:Jv P rs B h0 R X .ret σ h=lE P σ h rs (vW R h):=(rfl)
@[go_sem] theorem aAT{rs h0 R X}:Jv P rs B h0 R X .normal σ h=lE P σ h rs (vW R h):=(rfl)
@[go_sem] theorem aAU{rs h0 R X}(c):Jv P rs B h0 R X (.panic c) σ h=xI B h0 X c h:=(rfl)
@[go_sem] theorem aAV{rs R g l}:AJ P Γ rs R g l .ret σ h=nR P Γ g l h none (fun h'=>lE P σ h' rs (vW R h')):=(rfl)
theorem D9{rs R g l}(av){u}(hu:kD av=some u)(H:nR P Γ g l h (some u) (fun h'=>lE P σ h' rs (vW R h'))):AJ P Γ rs R g l (.panic (jN u)) σ h:=⟨av,u,rfl,hu,H⟩
attribute [go_sem] akv akx aky
def R7(P:Program)(Γ:GG)(f0:FuncId)(B N:Nat)(b:Bool)(y:Code)(Q:Exit->Tm->AH->Prop)(σ:Tm)(h:AH):Prop:=bif b then ee P Γ f0 N y Q σ h else jP P Γ f0 B N y Q σ h
@[go_sem] theorem aAW(y):R7 P Γ f0 B N true y Q σ h=ee P Γ f0 N y Q σ h:=(rfl)
@[go_sem] theorem aAX(y):R7 P Γ f0 B N false y Q σ h=jP P Γ f0 B N y Q σ h:=(rfl)
@[go_sem] theorem aAY:jP P Γ f0 B N .skip Q σ h=Q .normal σ h:=(rfl)
@[go_sem] theorem aAZ(l):jP P Γ f0 B N (.exit l) Q σ h=Q (.exit l) σ h:=(rfl)
@[go_sem] theorem aA0:jP P Γ f0 B N .ret Q σ h=Q .ret σ h:=(rfl)
@[go_sem] theorem aA1(id l):jP P Γ f0 B N (.region id l.toArray false) Q σ h=mR P Γ B l Q l σ h:=(rfl)
@[go_sem] theorem aA2(id ops):jP P Γ f0 B N (.region id ops true) Q σ h=ee P Γ f0 N (.region id ops true) Q σ h:=(rfl)
@[go_sem] theorem aA3(x y):jP P Γ f0 B N (.seq x y) Q σ h=jP P Γ f0 B N x (iP (R7 P Γ f0 B N (stops x) y Q) Q) σ h:=(rfl)
@[go_sem] theorem aA4(c x y):jP P Γ f0 B N (.cond c x y) Q σ h=lH (ev Γ σ c) true (jP P Γ f0 B N x Q) σ (jP P Γ f0 B N y Q) σ h:=(rfl)
@[go_sem] theorem aA5(id c):jP P Γ f0 B N (.block id c) Q σ h=jP P Γ f0 B N c (w9 id Q) σ h:=(rfl)
@[go_sem] theorem aA6(c):jP P Γ f0 B N (.loop c) Q σ h=ee P Γ f0 N (.loop c) Q σ h:=(rfl)
@[go_sem] theorem aA7(f ps a b):jP P Γ f0 B N (.rangeFunc f ps a b) Q σ h=ee P Γ f0 N (.rangeFunc f ps a b) Q σ h:=(rfl)
theorem ee.drawn{id ops}(hm:P.follows .mixedOrders=true)(hc:gW N (.region id ops true)=true)(H:fO P Γ N (.region id ops true) Q σ h):ee P Γ f0 N (.region id ops true) Q σ h:= .of (tL hm _ _ _ _ hc H)
def my(P:Program)(Γ:GG)(B:Nat)(op:Op)(K:AV->Tm->AH->Prop)(Q:Exit->Tm->AH->Prop)(σ:Tm)(h:AH):Prop:=
 D4 P Γ B {dst:=none,op:=op,type:=0,pos:= "",after:= #[],guard:=none} K Q σ h
def R8(P:Program)(Γ:GG)(B:Nat)(ops:List Oper)(Q:Exit->Tm->AH->Prop)(rest:List Oper)(d:Option Tmp)(v:AV)(σ:Tm)(h:AH):Prop:=mR P Γ B ops Q rest (put d v σ) h
def Zl(P:Program)(Γ:GG)(B:Nat)(ops:List Oper)(Q:Exit->Tm->AH->Prop)(rest:List Oper)(d:Option Tmp)(σ:Tm)(h:AH):Prop:=mR P Γ B ops Q rest (put d (.tuple []) σ) h
def Zm(P:Program)(Γ:GG)(B:Nat)(op:Op)(K:AV->Tm->AH->Prop)(Q:Exit->Tm->AH->Prop):KB:=fun σ h=>my P Γ B op K Q σ h
@[go_sem] theorem aA8(ops rest d v):R8 P Γ B ops Q rest d v σ h=mR P Γ B ops Q rest (put d v σ) h:=(rfl)
@[go_sem] theorem aA9(ops rest d):Zl P Γ B ops Q rest d σ h=mR P Γ B ops Q rest (put d (.tuple []) σ) h:=(rfl)
@[go_sem] theorem aA_(op K):Zm P Γ B op K Q σ h=my P Γ B op K Q σ h:=(rfl)
@[go_sem] theorem aBa(ops):mR P Γ B ops Q [] σ h=Q .normal σ h:=(rfl)
@[go_sem] theorem aBb(ops d op ty pos after rest):
  mR P Γ B ops Q ({dst:=d,op:=op,type:=ty,pos:=pos,after:=after,guard:=none}::rest) σ h=my P Γ B op (R8 P Γ B ops Q rest d) Q σ h:=(rfl)
@[go_sem] theorem aBc(ops d op ty pos after j want rest):
  mR P Γ B ops Q ({dst:=d,op:=op,type:=ty,pos:=pos,after:=after,guard:=some (j,want)}::rest) σ h=MH (sE ops j) want (Zm P Γ B op (R8 P Γ B ops Q rest d) Q) (Zl P Γ B ops Q rest d) σ h:=(rfl)
@[go_sem] theorem aBd(f)(l:List Operand)(ts)(K:KT):my P Γ B (.call {callee:= .value f,args:=l.toArray,argTypes:=ts}) K Q σ h=Jt P Γ B (ev Γ σ f) (l.map (ev Γ σ)) h (FH K σ) (RW Q B σ h):=(rfl)
@[go_sem] theorem aBe(b l ts)(K:KT):my P Γ B (.call {callee:= .builtin b,args:=l,argTypes:=ts}) K Q σ h=eW P Γ (.call {callee:= .builtin b,args:=l,argTypes:=ts}) K σ h:=(rfl)
@[go_sem] theorem aBf(x)(K:KT):my P Γ B (.panic x) K Q σ h=Nn (ev Γ σ x) (RX Q σ h):=(rfl)
@[go_sem] theorem aBg(g first cap l R X):Jt P Γ B (.func g first cap) l h R X=dq P Γ B g (first++l++cap) h R X:=(rfl)
@[go_sem] theorem aBh(i l R X):Jt P Γ B (.yield i) l h R X=uP P Γ B i l h R X:=(rfl)
@[go_sem] theorem aBi(u):RW Q B σ h u=Q (.panic (jN u)) σ (jO B h):=(rfl)
@[go_sem] theorem aBj(u):RX Q σ h u=Q (.panic (jN u)) σ h:=(rfl)
def Zn(o:Option Value)(K:Value->Prop):Prop:=match o with
 |some u=>K u
 |none=>False
@[go_sem] theorem aBk(t v K):Nn (.iface t v) K=Zn (kD (.iface t v)) K:=(rfl)
@[go_sem] theorem aBl(u K):Zn (some u) K=K u:=(rfl)
@[go_sem] theorem aBm(k n):kD (.int k n)=some (.int k n):=(rfl)
@[go_sem] theorem aBn(t v):kD (.iface t v)=(kD v).map (.iface t ·):=by rw[kD]
@[go_sem] theorem aBo(l):kD (.agg l)=(rP l).map fun l=> .agg l.toArray:=by rw[kD]
@[go_sem] theorem aBp:rP []=some []:=by rw[rP]
def Zo:Option Value->Option (List Value)->Option (List Value)
 |some v,some r=>some (v::r)
 |_,_=>none
@[go_sem] theorem aBq(a l):rP (a::l)=Zo (kD a) (rP l):=by rw[rP];cases kD a<;>cases rP l<;>rfl
@[go_sem] theorem aBs(v r):Zo (some v) (some r)=some (v::r):=(rfl)
theorem dq.jN{g l R X u}(H:dq P Γ B g l h (fun _ _=>False) fun u'=>u'=u)(hX:X u):dq P Γ B g l h R X:=H.mono (fun _ _ h=>h.elim) fun u' e=>by rw[e];exact hX
def Cp(P:Program)(Γ:GG)(K:Option (FuncId×List AV)->Tm->AH->Prop)(rest:List Oper)(d:Option (FuncId×List AV))(t:Option Tmp)(v:AV)(σ:Tm)(h:AH):Prop:=lP P Γ K rest d (put t v σ) h
@[go_sem] theorem aBt(K rest d t v):Cp P Γ K rest d t v σ h=lP P Γ K rest d (put t v σ) h:=(rfl)
@[go_sem] theorem aBu(p:FuncId->List AV->Prop)(g l):(∃g' l',(some (g,l):Option (FuncId×List AV))=some (g',l')/\p g' l')=p g l:=propext ⟨fun⟨_,_,e,H⟩=>by cases e;exact H,fun H=>⟨g,l,rfl,H⟩⟩
@[go_sem] theorem aBv(K d):lP P Γ K [] d σ h=K d σ h:=(rfl)
def Zp(P:Program)(Γ:GG)(K:Option (FuncId×List AV)->Tm->AH->Prop)(rest:List Oper)(t:Option Tmp)(f:AV)(l:List AV)(σ:Tm)(h:AH):Prop:=match f with
 | .func g first cap=>lP P Γ K rest (some (g,first++l++cap)) (put t (.tuple []) σ) h
 |_=>False
@[go_sem] theorem aBw(K rest t g first cap l):Zp P Γ K rest t (.func g first cap) l σ h=lP P Γ K rest (some (g,first++l++cap)) (put t (.tuple []) σ) h:=(rfl)
@[go_sem] theorem aBx(K t f)(l:List Operand)(ts ty pos after rest):
  lP P Γ K ({dst:=t,op:= .defer {callee:= .value f,args:=l.toArray,argTypes:=ts},type:=ty,pos:=pos,after:=after,guard:=none}::rest) none σ h=Zp P Γ K rest t (ev Γ σ f) (l.map (ev Γ σ)) σ h:=(rfl)
def Zq(P:Program)(Γ:GG)(K:Tm->AH->Prop)(rest:List Oper)(t:Option Tmp)(v:AV)(σ:Tm)(h:AH):Prop:=AG P Γ K rest (put t v σ) h
@[go_sem] theorem aBy(K rest t v):Zq P Γ K rest t v σ h=AG P Γ K rest (put t v σ) h:=(rfl)
@[go_sem] theorem aBz(K):AG P Γ K [] σ h=K σ h:=(rfl)
@[go_sem] theorem aBA(x)(K:KT):my P Γ B (.move x) K Q σ h=eW P Γ (.move x) K σ h:=(rfl)
@[go_sem] theorem aBB(x K d t ty pos after rest):lP P Γ K ({dst:=t,op:= .move x,type:=ty,pos:=pos,after:=after,guard:=none}::rest) d σ h=eW P Γ (.move x) (Cp P Γ K rest d t) σ h:=(rfl)
@[go_sem] theorem aBC(x)(K:KT):my P Γ B (.assign x) K Q σ h=eW P Γ (.assign x) K σ h:=(rfl)
@[go_sem] theorem aBD(x K d t ty pos after rest):lP P Γ K ({dst:=t,op:= .assign x,type:=ty,pos:=pos,after:=after,guard:=none}::rest) d σ h=eW P Γ (.assign x) (Cp P Γ K rest d t) σ h:=(rfl)
@[go_sem] theorem aBE(x K t ty pos after rest):AG P Γ K ({dst:=t,op:= .assign x,type:=ty,pos:=pos,after:=after,guard:=none}::rest) σ h=eW P Γ (.assign x) (Zq P Γ K rest t) σ h:=(rfl)
@[go_sem] theorem aBF(x y z)(K:KT):my P Γ B (.pick x y z) K Q σ h=eW P Γ (.pick x y z) K σ h:=(rfl)
@[go_sem] theorem aBG(x)(K:KT):my P Γ B (.alloc x) K Q σ h=eW P Γ (.alloc x) K σ h:=(rfl)
@[go_sem] theorem aBH(x K d t ty pos after rest):lP P Γ K ({dst:=t,op:= .alloc x,type:=ty,pos:=pos,after:=after,guard:=none}::rest) d σ h=eW P Γ (.alloc x) (Cp P Γ K rest d t) σ h:=(rfl)
@[go_sem] theorem aBI(x y)(K:KT):my P Γ B (.box x y) K Q σ h=eW P Γ (.box x y) K σ h:=(rfl)
@[go_sem] theorem aBJ(x y K d t ty pos after rest):lP P Γ K ({dst:=t,op:= .box x y,type:=ty,pos:=pos,after:=after,guard:=none}::rest) d σ h=eW P Γ (.box x y) (Cp P Γ K rest d t) σ h:=(rfl)
@[go_sem] theorem aBK(x y)(K:KT):my P Γ B (.build x y) K Q σ h=eW P Γ (.build x y) K σ h:=(rfl)
@[go_sem] theorem aBL(x y z)(K:KT):my P Γ B (.buildSlice x y z) K Q σ h=eW P Γ (.buildSlice x y z) K σ h:=(rfl)
@[go_sem] theorem aBM(x y)(K:KT):my P Γ B (.load x y) K Q σ h=eW P Γ (.load x y) K σ h:=(rfl)
@[go_sem] theorem aBN(x y z)(K:KT):my P Γ B (.store x y z) K Q σ h=eW P Γ (.store x y z) K σ h:=(rfl)
@[go_sem] theorem aBO(x)(K:KT):my P Γ B (.nilCheck x) K Q σ h=eW P Γ (.nilCheck x) K σ h:=(rfl)
@[go_sem] theorem aBP(x y z u v)(K:KT):my P Γ B (.binOp x y z u v) K Q σ h=eW P Γ (.binOp x y z u v) K σ h:=(rfl)
@[go_sem] theorem aBQ(x y z u v K d t ty pos after rest):lP P Γ K ({dst:=t,op:= .binOp x y z u v,type:=ty,pos:=pos,after:=after,guard:=none}::rest) d σ h=eW P Γ (.binOp x y z u v) (Cp P Γ K rest d t) σ h:=(rfl)
@[go_sem] theorem aBR(x y z)(K:KT):my P Γ B (.unOp x y z) K Q σ h=eW P Γ (.unOp x y z) K σ h:=(rfl)
@[go_sem] theorem aBT(x y)(K:KT):my P Γ B (.makeInterface x y) K Q σ h=eW P Γ (.makeInterface x y) K σ h:=(rfl)
@[go_sem] theorem aBU(x y z)(K:KT):my P Γ B (.makeFunc x y z) K Q σ h=eW P Γ (.makeFunc x y z) K σ h:=(rfl)
@[go_sem] theorem aBV(x y z K d t ty pos after rest):lP P Γ K ({dst:=t,op:= .makeFunc x y z,type:=ty,pos:=pos,after:=after,guard:=none}::rest) d σ h=eW P Γ (.makeFunc x y z) (Cp P Γ K rest d t) σ h:=(rfl)
@[go_sem] theorem aBW(x y z)(K:KT):my P Γ B (.makeSlice x y z) K Q σ h=eW P Γ (.makeSlice x y z) K σ h:=(rfl)
@[go_sem] theorem aBX(x y z u v)(K:KT):my P Γ B (.slice x y z u v) K Q σ h=eW P Γ (.slice x y z u v) K σ h:=(rfl)
@[go_sem] theorem aBY(x y z)(K:KT):my P Γ B (.fieldAddr x y z) K Q σ h=eW P Γ (.fieldAddr x y z) K σ h:=(rfl)
@[go_sem] theorem aBZ(x y z)(K:KT):my P Γ B (.indexAddr x y z) K Q σ h=eW P Γ (.indexAddr x y z) K σ h:=(rfl)
@[go_sem] theorem aB0(x y)(K:KT):my P Γ B (.extract x y) K Q σ h=eW P Γ (.extract x y) K σ h:=(rfl)
end
def JJ(ops:Array Oper)(c:Nat):Bool:=
 (List.range ops.size).all fun i=>i==c||(if i<c then((Region.before ops).getD c 0).testBit i else((Region.before ops).getD i 0).testBit c)
section
variable {P:Program} {Γ:GG} {G:Gh} {h:AH} {w:World} {N:Nat} {σ σ':Tm} {Q:Exit->Tm->AH->Prop} {ops:Array Oper}
theorem Ge{c}(hB:JJ ops c=true){i}(hi:i<ops.size):(i<c->((Region.before ops).getD c 0).testBit i=true)/\(c<i->((Region.before ops).getD i 0).testBit c=true):=by have:=List.all_eq_true.1 hB i (List.mem_range.2 hi);grind
theorem Sep.eqv:∀{l:List (Nat×Nat)},gN σ σ'->Sep σ l->Sep σ' l
 |[],_,_=>trivial
 |(s,s')::l,e,H=>⟨by have:=H.1;rwa [e s,e s']at this,Sep.eqv e H.2⟩
theorem gN.same{t v}(e:lk σ t=v):gN σ ((t,v)::σ):=fun i=>by simp only[lk];grind
theorem TR.eqv{a:Act}(e:gN σ σ')(ht:TR N G σ a.tmps):TR N G σ' a.tmps:=⟨ht.1,fun i=>by rw[<-e i];exact ht.2 i⟩
theorem ak7(hd:Aw ops=true)(hN:mi N ops=true){c o}(ho:ops[c]? =some o)(hB:JJ ops c=true){K G0 ds r}:
  ∀(fuel) (listed) (a) (w) (G) (σ) (h),listed.size=ops.size->FO ops listed->listed.getD c true=false->(rem ops listed).length<=fuel->G0.le G->Inv Γ G h w->TR N G σ a.tmps->a.defers=ds->Sep σ (mm ops.toList)->
   (∃m,jB P Γ ops.toList m h (((rem ops listed).filter (·<c)).filterMap (ops[·]?)) σ fun σ h=>∃dP,gN σ dP/\
    ke P Γ ops.toList (fun σ h=>lZ P Γ ops.toList K (((List.range ops.size).filter (c<·)).filterMap (ops[·]?)) σ h) [o] dP h)->
   wpAnyIn (Fr r) 0 P .any ops (fA Γ N G0 ds (iP (fun σ h=>∃dP,gN σ dP/\K dP h) fun _ _ _=>False)) fuel listed a w:=by
 have kz:c<ops.size:=(Array.getElem?_eq_some_iff.1 ho).1;have kx:∀(i:Nat) (o:Oper),ops[i]? =some o->∀x,o.dst=some x->x<N:=fun i o ho x hx=>by have:=List.all_eq_true.1 hN o (by simpa using Array.mem_of_getElem? ho);rw[hx]at this;exact Nat.le_of_ble_eq_true this
 have qh:∀{listed:Array Bool} {i:Nat},listed.size=ops.size->i∈Region.ready .any ops listed->i∈rem ops listed:=fun hs hi=>by obtain⟨h0,o,ho,_⟩:=mem_ready.1 hi;exact pa.2 ⟨(Array.getElem?_eq_some_iff.1 ho).1,h0⟩
 have IU:∀{listed:Array Bool},listed.size=ops.size->rem ops listed≠[]->Region.ready .any ops listed≠[]:=fun {listed} hs cV hr=>by
  cases hl:rem ops listed with
  |nil=>exact cV hl
  |cons m L=>
   obtain⟨yL,vS⟩:=pa.1 (show m∈rem ops listed by rw[hl];exact List.mem_cons_self ..);have IV:∀j∈rem ops listed,m<=j:=fun j hj=>by
    have hp:=DB (ops:=ops) listed;rw[hl]at hp hj;rcases List.mem_cons.1 hj with rfl|hj
    .exact Nat.le_refl _
    .exact Nat.le_of_lt ((List.pairwise_cons.1 hp).1 j hj)
   have:m∈Region.ready .any ops listed:=mem_ready.2 ⟨vS,ops[m],Array.getElem?_eq_getElem yL,fun e he hb=>by
    have dN:=(FN hd (Array.getElem?_eq_getElem yL)).2.1 e he hb;rw[FP (by rw[hs];omega)];cases hx:listed.getD e.on true with
    |true=>rfl
    |false=>have:=IV e.on (pa.2 ⟨by omega,hx⟩);omega⟩
   rw[hr]at this;cases this
 intro fuel;induction fuel with
 |zero=>
  intro listed a w G σ h hs hc dG hf hle hI ht mn jW H;have hr:rem ops listed=[]:=List.length_eq_zero_iff.1 (by omega);have:c∈rem ops listed:=pa.2 ⟨kz,dG⟩;rw[hr]at this;cases this
 |succ fuel ih=>
  intro listed a w G σ h hs hc dG hf hle hI ht mn jW H;have y6:c∈rem ops listed:=pa.2 ⟨kz,dG⟩;refine⟨fun hr=>absurd hr (IU hs fun e=>by rw[e]at y6;cases y6),fun i hi=>?_⟩;have IW:=qh hs hi;obtain⟨XH,oi,ov,IX⟩:=mem_ready.1 hi;obtain⟨L1,L2,e1,e2,e3⟩:=Mz hs IW;obtain⟨fI,jH,qq⟩:=FN hd ov;have lF:i<ops.size:=(Array.getElem?_eq_some_iff.1 ov).1;have lB:∀j,j<ops.size->((Region.before ops).getD i 0).testBit j=true->listed.getD j true=true:=fun j hj kg=>by
   rw[fI]at kg;rcases My _ j _ _ kg with h0|⟨e,he,yM,qs⟩
   .simp at h0
   .have uF:=IX e (by simpa using he) yM;have XI:=jH e (by simpa using he) yM;rw[FP (by omega)]at uF;rcases qs with rfl|qs
    .exact uF
    .exact hc e.on (by omega) uF j hj qs
  have qt:FO ops (listed.setIfInBounds i true):=fun k hk rI j hj kg=>by
   by_cases qu:j=i
   .subst qu;exact DC (by omega) _
   .rw[tK (fun e=>qu e.symm)];by_cases mO:k=i
    .subst mO;exact lB j hj kg
    .rw[tK (fun e=>mO e.symm)]at rI;exact hc k hk rI j hj kg
  have vT:(rem ops (listed.setIfInBounds i true)).length<=fuel:=by rw[e1]at hf;rw[e2];simp at hf|-;omega
  obtain⟨m,H⟩:=H;have Ss:∀j∈L2,i<j:=fun j hj=>by have hp:=DB (ops:=ops) listed;rw[e1]at hp;exact(List.pairwise_cons.1 (List.pairwise_append.1 hp).2.1).1 j hj
  rcases Nat.lt_trichotomy i c with xM|xM|xM
  ·
   have qg:(rem ops listed).filter (·<c)=L1++i::L2.filter (·<c):=by rw[e1,List.filter_append,List.filter_cons_of_pos (by simpa using xM),List.filter_eq_self.2 fun j hj=>by have:=(e3 j hj).1;simp;omega]
   have Su:(rem ops (listed.setIfInBounds i true)).filter (·<c)=L1++L2.filter (·<c):=by rw[e2,List.filter_append,List.filter_eq_self.2 fun j hj=>by have:=(e3 j hj).1;simp;omega]
   rw[qg,List.filterMap_append,List.filterMap_cons,ov]at H;simp only at H;have xe:∀x∈L1.filterMap (ops[·]?),xd ops.toList oi x=true/\x∈ops.toList:=fun x hx=>by
    obtain⟨j,hj,Aa⟩:=List.mem_filterMap.1 hx;obtain⟨j1,j2⟩:=e3 j hj;refine⟨?_,by simpa using Array.mem_of_getElem? Aa⟩;refine qq j x j1 Aa ?_;cases kg:((Region.before ops).getD i 0).testBit j with
    |false=>rfl
    |true=>rw[lB j (by omega) kg]at j2;cases j2
   obtain⟨v,h2,s1,_,s2⟩:=jB.pull _ _ _ _ xe jW H;have s3:=jB.mono _ _ _ _ (fun σ h (k:∃σ',gN σ σ'/\∃dP,gN σ' dP/\_)=>by obtain⟨σ',k1,dP,k2,k3⟩:=k;exact(⟨dP,fun i=>(k1 i).trans (k2 i),k3⟩:∃dP,gN σ dP/\ke P Γ ops.toList (fun σ h=>lZ P Γ ops.toList K (((List.range ops.size).filter (c<·)).filterMap (ops[·]?)) σ h) [o] dP h)) s2
   rw[<-List.filterMap_append,<-Su]at s3;have Ef:(listed.setIfInBounds i true).getD c true=false:=by rw[tK (by omega)];exact dG
   have ld:=kx i oi ov;have xf:∀v',Sep (put oi.dst v' σ) (mm ops.toList):=fun v'=>jW.put (by simpa using Array.mem_of_getElem? ov);unfold wpOpIn;simp only[ov];have run:fe P Γ oi σ h v h2->oi.wpIn (Fr r) 0 P a w (wpAnyIn (Fr r) 0 P .any ops (fA Γ N G0 ds (iP (fun σ h=>∃dP,gN σ dP/\K dP h) fun _ _ _=>False)) fuel (listed.setIfInBounds i true)) (fA Γ N G0 ds (iP (fun σ h=>∃dP,gN σ dP/\K dP h) fun _ _ _=>False)):=fun H=>
    Mf hI ht H fun u v' G' h' w' k1 k2 k3 k4=>by obtain⟨rfl,rfl⟩:=k4;exact ih _ _ w' G' _ _ (by simpa using hs) qt Ef vT (hle.trans k1) k2 ((ht.mono k1).put ld k3) ((put_defers a oi.dst u).trans mn) (xf _) ⟨m,s3⟩
   by_cases gV:o9 oi=true
   .obtain⟨Ax,IY⟩:=vR gV;unfold Region.wanted;simp only[IY,if_true];exact(s1.al gV).ok hI ht Ax fun u G' w' k1 k2 k3=>
     ih _ _ w' G' _ _ (by simpa using hs) qt Ef vT (hle.trans k1) k2 ((ht.mono k1).put ld k3) ((put_defers a oi.dst u).trans mn) (xf _) ⟨m,s3⟩
   have s1:=s1.no gV;unfold eE at s1;unfold Region.wanted;split at s1
   .rename_i hg;simp only[hg,if_true];exact run s1
   .rename_i j want hg;simp only[hg];obtain⟨t,b,hj,hb,qs⟩:=s1;rw[BZ,Array.getElem?_toList]at hj;rw[QV ht hj hb];rcases qs with⟨rfl,hv⟩|⟨nI,rfl,rfl⟩
    .simp only[beq_self_eq_true,if_true];exact run hv
    .have:(b==some want)=false:=by simpa using nI
     simp only[this,Bool.false_eq_true,if_false];exact⟨fun _ _=>trivial,ih _ _ w G _ _ (by simpa using hs) qt Ef vT hle hI (ht.put ld (VR.undef G)) ((put_defers a oi.dst undef).trans mn) (xf _) ⟨m,s3⟩⟩
  ·
   subst xM;obtain rfl:oi=o:=Option.some.inj (ov.symm.trans ho);have kK:∀j,j<i->listed.getD j true=true:=fun j hj=>lB j (by omega) ((Ge hB (by omega)).1 hj);have tN:L1=[]:=by
    cases hL:L1 with
    |nil=>rfl
    |cons j _=>
     have:=e3 j (by rw[hL];exact List.mem_cons_self ..);rw[kK j this.1]at this;cases this.2
   subst tN;rw[List.nil_append]at e1 e2;have oq:L2=(List.range ops.size).filter (i<·):=by
    have:rem ops (listed.setIfInBounds i true)=(List.range ops.size).filter (i<·):=by
     unfold rem;refine List.filter_congr fun j hj=>?_;have zZ:=List.mem_range.1 hj;rcases Nat.lt_trichotomy j i with h|h|h
     .rw[tK (by omega),kK j h];simp;omega
     .subst h;rw[DC (by omega)];simp
     .rw[tK (by omega)];have:listed.getD j true=false:=by
       cases hx:listed.getD j true with
       |false=>rfl
       |true=>rw[hc j zZ hx i lF ((Ge hB zZ).2 h)]at dG;cases dG
      rw[this];simp[h]
    rw[<-e2,this]
   have qg:(rem ops listed).filter (·<i)=[]:=by rw[e1,List.filter_cons_of_neg (by simp)];exact List.filter_eq_nil_iff.2 fun j hj=>by have:=Ss j hj;simp;omega
   rw[qg,List.filterMap_nil]at H;obtain⟨dP,Eg,H⟩:=(show∃dP,_ from H);have ld:=kx i oi ov;have fin:∀(σ':Tm) (h':AH) (G':Gh) (w':World) (a':Act),lZ P Γ ops.toList K (((List.range ops.size).filter (i<·)).filterMap (ops[·]?)) σ' h'->G0.le G'->Inv Γ G' h' w'->TR N G' σ' a'.tmps->a'.defers=ds->Sep σ' (mm ops.toList)->
     wpAnyIn (Fr r) 0 P .any ops (fA Γ N G0 ds (iP (fun σ h=>∃dP,gN σ dP/\K dP h) fun _ _ _=>False)) fuel (listed.setIfInBounds i true) a' w':=fun σ' h' G' w' a' H' k1 k2 k3 k4 k5=>
    XG hd hN (fun σ σ' h e ⟨dP,q1,q2⟩=>⟨dP,fun i=>(e i).trans (q1 i),q2⟩) fuel _ a' w' G' σ' h' (by simpa using hs) qt vT k1 k2 k3 k4 k5 ⟨0,by
     rw[e2,oq];exact IN _ 0 _ σ' σ' (Nat.zero_le _) (fun _=>rfl) H'⟩
   have nk:oi∈ops.toList:=by simpa using Array.mem_of_getElem? ov
   have uT:=ht.eqv Eg;have AN:=jW.eqv Eg;clear ht jW;unfold wpOpIn;simp only[ov];have run:∀σ,TR N G σ a.tmps->Sep σ (mm ops.toList)->pQ P Γ oi (fun v σ h=>ke P Γ ops.toList (fun σ h=>lZ P Γ ops.toList K (((List.range ops.size).filter (i<·)).filterMap (ops[·]?)) σ h) [] (put oi.dst v σ) h) σ h->
     oi.wpIn (Fr r) 0 P a w (wpAnyIn (Fr r) 0 P .any ops (fA Γ N G0 ds (iP (fun σ h=>∃dP,gN σ dP/\K dP h) fun _ _ _=>False)) fuel (listed.setIfInBounds i true)) (fA Γ N G0 ds (iP (fun σ h=>∃dP,gN σ dP/\K dP h) fun _ _ _=>False)):=fun σ ht jW H=>
    Iz hI ht H fun u v G' h' w' h1 h2 h3 h4=>
     fin _ h' G' w' _ h4 (hle.trans h1) h2 ((ht.mono h1).put ld h3) ((put_defers a oi.dst u).trans mn) (jW.put nk)
   have pass:∀σ,TR N G σ a.tmps->Sep σ (mm ops.toList)->ke P Γ ops.toList (fun σ h=>lZ P Γ ops.toList K (((List.range ops.size).filter (i<·)).filterMap (ops[·]?)) σ h) [] (put oi.dst (.tuple []) σ) h->
     (∀f,oi.about P w a.eval=some f->(Fr r).fn f)/\wpAnyIn (Fr r) 0 P .any ops (fA Γ N G0 ds (iP (fun σ h=>∃dP,gN σ dP/\K dP h) fun _ _ _=>False)) fuel (listed.setIfInBounds i true) (a.put oi.dst undef) w:=fun σ ht jW H=>
    ⟨fun _ _=>trivial,fin _ h G w _ H hle hI (ht.put ld (VR.undef G)) ((put_defers a oi.dst undef).trans mn) (jW.put nk)⟩
   simp only[ke]at H;unfold Region.wanted;split at H
   .rename_i hg;simp only[hg,if_true];exact run dP uT AN H
   .rename_i j want hg;simp only[hg];unfold Aj at H;split at H
    .rename_i t hj;rw[BZ,Array.getElem?_toList]at hj;rcases IB H with⟨b,hb,H1,H2⟩|⟨hb,H⟩
     .rw[IA uT hj hb];by_cases rF:b=want
      .subst rF;simp only[beq_self_eq_true,if_true];exact run _ (uT.same hb) (AN.eqv (gN.same hb)) (H1 rfl)
      .have:(some b==some want)=false:=by cases b<;>cases want<;>simp_all
       simp only[this,Bool.false_eq_true,if_false];have nI:b=!want:=by cases b<;>cases want<;>simp_all
       exact pass _ (uT.same (hb.trans (by rw[nI]))) (AN.eqv (gN.same (hb.trans (by rw[nI])))) (H2 nI)
     .rw[IC uT hj hb];have:((none:Option Bool)==some want)=false:=rfl;simp only[this,Bool.false_eq_true,if_false];exact pass _ uT AN H
    .exact H.elim
  ·
   have:=lB c kz ((Ge hB lF).2 xM);rw[this]at dG;cases dG
theorem Sw{α β:Type}{f g:α->Option β}:∀{l:List α},(∀x∈l,f x=g x)->l.filterMap f=l.filterMap g
 |[],_=>rfl
 |x::l,h=>by rw[List.filterMap_cons,List.filterMap_cons,h x (List.mem_cons_self ..),Sw (l:=l) fun y hy=>h y (List.mem_cons_of_mem _ hy)]
theorem ZI{α:Type}(l:List α)(c)(hc:c<=l.length):((List.range l.length).filter (·<c)).filterMap (fun i=>l[i]?)=l.take c:=by
 have h1:(List.range l.length).filter (·<c)=List.range c:=by obtain⟨d,e⟩:∃d,l.length=c+d:=⟨l.length-c,by omega⟩;rw[e,List.range_add,List.filter_append,List.filter_eq_self.2 fun j hj=>by simpa using List.mem_range.1 hj,List.filter_eq_nil_iff.2 fun j hj=>by grind,List.append_nil]
 rw[h1];have:=ID (l.take c);rw[List.length_take,Nat.min_eq_left hc]at this;rw[<-this];refine Sw fun i hi=>?_;grind
theorem ak8{α:Type}(l:List α)(c)(hc:c<l.length):((List.range l.length).filter (c<·)).filterMap (fun i=>l[i]?)=l.drop (c+1):=by
 obtain⟨d,e⟩:∃d,l.length=(c+1)+d:=⟨l.length-(c+1),by omega⟩;have h1:(List.range l.length).filter (c<·)=(List.range d).map (c+1+·):=by rw[e,List.range_add,List.filter_append,List.filter_eq_nil_iff.2 fun j hj=>by grind,List.nil_append];exact List.filter_eq_self.2 fun j hj=>by grind
 rw[h1,List.filterMap_map];have:=ID (l.drop (c+1));rw[List.length_drop,show l.length-(c+1)=d by omega]at this;rw[<-this];refine Sw fun i hi=>?_;simp[List.getElem?_drop]
def Sy(P:Program)(Γ:GG)(ops post:List Oper)(Q:Exit->Tm->AH->Prop)(σ:Tm)(h:AH):Prop:=lZ P Γ ops (Q .normal) post σ h
def ZJ(P:Program)(Γ:GG)(ops:List Oper)(o:Oper)(post:List Oper)(Q:Exit->Tm->AH->Prop)(σ:Tm)(h:AH):Prop:=ke P Γ ops (Sy P Γ ops post Q) [o] σ h
@[go_sem] theorem aB6(ops post):Sy P Γ ops post Q σ h=lZ P Γ ops (Q .normal) post σ h:=(rfl)
@[go_sem] theorem aB7(ops o post):ZJ P Γ ops o post Q σ h=ke P Γ ops (Sy P Γ ops post Q) [o] σ h:=(rfl)
theorem ZK{id c o}(hm:P.follows .mixedOrders=true)(hd:Aw ops=true)(hN:mi N ops=true)(ho:ops[c]? =some o)(hB:JJ ops c=true)(jW:Sep σ (mm ops.toList))
  (H:lZ P Γ ops.toList (ZJ P Γ ops.toList o (ops.toList.drop (c+1)) Q) (ops.toList.take c) σ h):bw P Γ N (.region id ops true) Q σ h:=fun r G w a hr hI ht=>by
 have kz:c<ops.size:=(Array.getElem?_eq_some_iff.1 ho).1;have hs:=IN _ 0 _ σ σ (Nat.zero_le _) (fun _=>rfl) H;have e1:((List.range ops.size).filter (c<·)).filterMap (ops[·]?)=ops.toList.drop (c+1):=by have:=ak8 ops.toList c (by simpa using kz);simpa using this
 have e2:((List.range ops.size).filter (·<c)).filterMap (ops[·]?)=ops.toList.take c:=by have:=ZI ops.toList c (by simp;omega);simpa using this
 rw[<-e1,<-e2]at hs;refine wpIn_mono (Q:=fA Γ N G a.defers (iP (fun σ h=>∃dP,gN σ dP/\Q .normal dP h) fun _ _ _=>False)) ?_ fun e a' w' hp=>?_
 .refine wpIn_region_any hm (ak7 (K:=Q .normal) hd hN ho hB ops.size _ a _ G σ h (by simp) (fun i hi hl=>?_) ?_ ?_ (Gh.le.refl G) ?_ ht rfl jW ?_)
  .simp_all
  .simp[Array.getD_eq_getD_getElem?,kz]
  .rw[Cb];simp
  .exact hI.later (Nat.le_refl _) rfl rfl rfl (fun _ _=>rfl)
  .rw[Cb];exact⟨0,hs⟩
 .obtain⟨G',σ',h',Ds,h1,h2,h3,h4,h5,h6,h7⟩:=hp;cases e with
  |normal=>
   obtain⟨dP,k1,k2⟩:=h7;exact⟨G',dP,h',Ds,h1,h2,⟨h3.1,fun i=>by rw[<-k1 i];exact h3.2 i⟩,h4,h5,h6,k2⟩
  |_=>exact h7.elim
end
def QQ(Q:Exit->Tm->AH->Prop):Exit->Tm->AH->Prop:=fun e σ h=>∃dP,gN σ dP/\Q e dP h
section
variable {P:Program} {Γ:GG} {G:Gh} {h:AH} {w:World} {N B:Nat} {σ σ':Tm} {Q:Exit->Tm->AH->Prop} {ops:Array Oper}
theorem ak9(hd:Aw ops=true)(hN:mi N ops=true){c o}(ho:ops[c]? =some o)(hB:JJ ops c=true)(ZL:c+1=ops.size){G0 ds r}:
  ∀(fuel) (listed) (a) (w) (G) (σ) (h),listed.size=ops.size->FO ops listed->listed.getD c true=false->(rem ops listed).length<=fuel->G0.le G->Inv Γ G h w->TR N G σ a.tmps->a.defers=ds->Sep σ (mm ops.toList)->
   (∃m,jB P Γ ops.toList m h (((rem ops listed).filter (·<c)).filterMap (ops[·]?)) σ fun σ h=>∃dP,gN σ dP/\
    mR P Γ B ops.toList Q [o] dP h)->
   wpAnyIn (Fr r) 0 P .any ops (fA Γ N G0 ds (QQ Q)) fuel listed a w:=by
 have kz:c<ops.size:=(Array.getElem?_eq_some_iff.1 ho).1;have kx:∀(i:Nat) (o:Oper),ops[i]? =some o->∀x,o.dst=some x->x<N:=fun i o ho x hx=>by have:=List.all_eq_true.1 hN o (by simpa using Array.mem_of_getElem? ho);rw[hx]at this;exact Nat.le_of_ble_eq_true this
 have qh:∀{listed:Array Bool} {i:Nat},listed.size=ops.size->i∈Region.ready .any ops listed->i∈rem ops listed:=fun hs hi=>by obtain⟨h0,o,ho,_⟩:=mem_ready.1 hi;exact pa.2 ⟨(Array.getElem?_eq_some_iff.1 ho).1,h0⟩
 have IU:∀{listed:Array Bool},listed.size=ops.size->rem ops listed≠[]->Region.ready .any ops listed≠[]:=fun {listed} hs cV hr=>by
  cases hl:rem ops listed with
  |nil=>exact cV hl
  |cons m L=>
   obtain⟨yL,vS⟩:=pa.1 (show m∈rem ops listed by rw[hl];exact List.mem_cons_self ..);have IV:∀j∈rem ops listed,m<=j:=fun j hj=>by
    have hp:=DB (ops:=ops) listed;rw[hl]at hp hj;rcases List.mem_cons.1 hj with rfl|hj
    .exact Nat.le_refl _
    .exact Nat.le_of_lt ((List.pairwise_cons.1 hp).1 j hj)
   have:m∈Region.ready .any ops listed:=mem_ready.2 ⟨vS,ops[m],Array.getElem?_eq_getElem yL,fun e he hb=>by
    have dN:=(FN hd (Array.getElem?_eq_getElem yL)).2.1 e he hb;rw[FP (by rw[hs];omega)];cases hx:listed.getD e.on true with
    |true=>rfl
    |false=>have:=IV e.on (pa.2 ⟨by omega,hx⟩);omega⟩
   rw[hr]at this;cases this
 intro fuel;induction fuel with
 |zero=>
  intro listed a w G σ h hs hc dG hf hle hI ht mn jW H;have hr:rem ops listed=[]:=List.length_eq_zero_iff.1 (by omega);have:c∈rem ops listed:=pa.2 ⟨kz,dG⟩;rw[hr]at this;cases this
 |succ fuel ih=>
  intro listed a w G σ h hs hc dG hf hle hI ht mn jW H;have y6:c∈rem ops listed:=pa.2 ⟨kz,dG⟩;refine⟨fun hr=>absurd hr (IU hs fun e=>by rw[e]at y6;cases y6),fun i hi=>?_⟩;have IW:=qh hs hi;obtain⟨XH,oi,ov,IX⟩:=mem_ready.1 hi;obtain⟨L1,L2,e1,e2,e3⟩:=Mz hs IW;obtain⟨fI,jH,qq⟩:=FN hd ov;have lF:i<ops.size:=(Array.getElem?_eq_some_iff.1 ov).1;have lB:∀j,j<ops.size->((Region.before ops).getD i 0).testBit j=true->listed.getD j true=true:=fun j hj kg=>by
   rw[fI]at kg;rcases My _ j _ _ kg with h0|⟨e,he,yM,qs⟩
   .simp at h0
   .have uF:=IX e (by simpa using he) yM;have XI:=jH e (by simpa using he) yM;rw[FP (by omega)]at uF;rcases qs with rfl|qs
    .exact uF
    .exact hc e.on (by omega) uF j hj qs
  have qt:FO ops (listed.setIfInBounds i true):=fun k hk rI j hj kg=>by
   by_cases qu:j=i
   .subst qu;exact DC (by omega) _
   .rw[tK (fun e=>qu e.symm)];by_cases mO:k=i
    .subst mO;exact lB j hj kg
    .rw[tK (fun e=>mO e.symm)]at rI;exact hc k hk rI j hj kg
  have vT:(rem ops (listed.setIfInBounds i true)).length<=fuel:=by rw[e1]at hf;rw[e2];simp at hf|-;omega
  obtain⟨m,H⟩:=H;have Ss:∀j∈L2,i<j:=fun j hj=>by have hp:=DB (ops:=ops) listed;rw[e1]at hp;exact(List.pairwise_cons.1 (List.pairwise_append.1 hp).2.1).1 j hj
  rcases Nat.lt_trichotomy i c with xM|xM|xM
  ·
   have qg:(rem ops listed).filter (·<c)=L1++i::L2.filter (·<c):=by rw[e1,List.filter_append,List.filter_cons_of_pos (by simpa using xM),List.filter_eq_self.2 fun j hj=>by have:=(e3 j hj).1;simp;omega]
   have Su:(rem ops (listed.setIfInBounds i true)).filter (·<c)=L1++L2.filter (·<c):=by rw[e2,List.filter_append,List.filter_eq_self.2 fun j hj=>by have:=(e3 j hj).1;simp;omega]
   rw[qg,List.filterMap_append,List.filterMap_cons,ov]at H;simp only at H;have xe:∀x∈L1.filterMap (ops[·]?),xd ops.toList oi x=true/\x∈ops.toList:=fun x hx=>by
    obtain⟨j,hj,Aa⟩:=List.mem_filterMap.1 hx;obtain⟨j1,j2⟩:=e3 j hj;refine⟨?_,by simpa using Array.mem_of_getElem? Aa⟩;refine qq j x j1 Aa ?_;cases kg:((Region.before ops).getD i 0).testBit j with
    |false=>rfl
    |true=>rw[lB j (by omega) kg]at j2;cases j2
   obtain⟨v,h2,s1,_,s2⟩:=jB.pull _ _ _ _ xe jW H;have s3:=jB.mono _ _ _ _ (fun σ h (k:∃σ',gN σ σ'/\∃dP,gN σ' dP/\_)=>by obtain⟨σ',k1,dP,k2,k3⟩:=k;exact(⟨dP,fun i=>(k1 i).trans (k2 i),k3⟩:∃dP,gN σ dP/\mR P Γ B ops.toList Q [o] dP h)) s2
   rw[<-List.filterMap_append,<-Su]at s3;have Ef:(listed.setIfInBounds i true).getD c true=false:=by rw[tK (by omega)];exact dG
   have ld:=kx i oi ov;have xf:∀v',Sep (put oi.dst v' σ) (mm ops.toList):=fun v'=>jW.put (by simpa using Array.mem_of_getElem? ov);unfold wpOpIn;simp only[ov];have run:fe P Γ oi σ h v h2->oi.wpIn (Fr r) 0 P a w (wpAnyIn (Fr r) 0 P .any ops (fA Γ N G0 ds (QQ Q)) fuel (listed.setIfInBounds i true)) (fA Γ N G0 ds (QQ Q)):=fun H=>
    Mf hI ht H fun u v' G' h' w' k1 k2 k3 k4=>by obtain⟨rfl,rfl⟩:=k4;exact ih _ _ w' G' _ _ (by simpa using hs) qt Ef vT (hle.trans k1) k2 ((ht.mono k1).put ld k3) ((put_defers a oi.dst u).trans mn) (xf _) ⟨m,s3⟩
   by_cases gV:o9 oi=true
   .obtain⟨Ax,IY⟩:=vR gV;unfold Region.wanted;simp only[IY,if_true];exact(s1.al gV).ok hI ht Ax fun u G' w' k1 k2 k3=>
     ih _ _ w' G' _ _ (by simpa using hs) qt Ef vT (hle.trans k1) k2 ((ht.mono k1).put ld k3) ((put_defers a oi.dst u).trans mn) (xf _) ⟨m,s3⟩
   have s1:=s1.no gV;unfold eE at s1;unfold Region.wanted;split at s1
   .rename_i hg;simp only[hg,if_true];exact run s1
   .rename_i j want hg;simp only[hg];obtain⟨t,b,hj,hb,qs⟩:=s1;rw[BZ,Array.getElem?_toList]at hj;rw[QV ht hj hb];rcases qs with⟨rfl,hv⟩|⟨nI,rfl,rfl⟩
    .simp only[beq_self_eq_true,if_true];exact run hv
    .have:(b==some want)=false:=by simpa using nI
     simp only[this,Bool.false_eq_true,if_false];exact⟨fun _ _=>trivial,ih _ _ w G _ _ (by simpa using hs) qt Ef vT hle hI (ht.put ld (VR.undef G)) ((put_defers a oi.dst undef).trans mn) (xf _) ⟨m,s3⟩⟩
  ·
   subst xM;obtain rfl:oi=o:=Option.some.inj (ov.symm.trans ho);have kK:∀j,j<i->listed.getD j true=true:=fun j hj=>lB j (by omega) ((Ge hB (by omega)).1 hj);have tN:L1=[]:=by
    cases hL:L1 with
    |nil=>rfl
    |cons j _=>
     have:=e3 j (by rw[hL];exact List.mem_cons_self ..);rw[kK j this.1]at this;cases this.2
   subst tN;rw[List.nil_append]at e1 e2;have oq:L2=(List.range ops.size).filter (i<·):=by
    have:rem ops (listed.setIfInBounds i true)=(List.range ops.size).filter (i<·):=by
     unfold rem;refine List.filter_congr fun j hj=>?_;have zZ:=List.mem_range.1 hj;rcases Nat.lt_trichotomy j i with h|h|h
     .rw[tK (by omega),kK j h];simp;omega
     .subst h;rw[DC (by omega)];simp
     .rw[tK (by omega)];have:listed.getD j true=false:=by
       cases hx:listed.getD j true with
       |false=>rfl
       |true=>rw[hc j zZ hx i lF ((Ge hB zZ).2 h)]at dG;cases dG
      rw[this];simp[h]
    rw[<-e2,this]
   have qg:(rem ops listed).filter (·<i)=[]:=by rw[e1,List.filter_cons_of_neg (by simp)];exact List.filter_eq_nil_iff.2 fun j hj=>by have:=Ss j hj;simp;omega
   rw[qg,List.filterMap_nil]at H;obtain⟨dP,Eg,H⟩:=(show∃dP,_ from H);have ld:=kx i oi ov;have NB:rem ops (listed.setIfInBounds i true)=[]:=by rw[e2,oq];exact List.filter_eq_nil_iff.2 fun j hj=>by have:=List.mem_range.1 hj;simp;omega
   have ZM:Region.ready .any ops (listed.setIfInBounds i true)=[]:=by
    cases hx:Region.ready .any ops (listed.setIfInBounds i true)with
    |nil=>rfl
    |cons k l=>
     have:=qh (listed:=listed.setIfInBounds i true) (by simpa using hs) (show k∈_ by rw[hx];exact List.mem_cons_self ..);rw[NB]at this;cases this
   have fin:∀(σ':Tm) (h':AH) (G':Gh) (w':World) (a':Act),Q .normal σ' h'->G0.le G'->Inv Γ G' h' w'->TR N G' σ' a'.tmps->a'.defers=ds->
     wpAnyIn (Fr r) 0 P .any ops (fA Γ N G0 ds (QQ Q)) fuel (listed.setIfInBounds i true) a' w':=fun σ' h' G' w' a' H' k1 k2 k3 k4=>by
    have hp:fA Γ N G0 ds (QQ Q) .normal a' w':=⟨G',σ',h',[],k1,k2,k3,by simpa using k4,fun D hD=>by simp at hD,List.nodup_nil,σ',fun _=>rfl,H'⟩;cases fuel with
    |zero=>exact⟨ZM,hp⟩
    |succ n=>exact⟨fun _=>hp,fun k hk=>by rw[ZM]at hk;cases hk⟩
   have nk:oi∈ops.toList:=by simpa using Array.mem_of_getElem? ov
   have uT:=ht.eqv Eg;have AN:=jW.eqv Eg;clear ht jW;unfold wpOpIn;simp only[ov];have run:∀σ,TR N G σ a.tmps->Sep σ (mm ops.toList)->D4 P Γ B oi (fun v σ h=>mR P Γ B ops.toList Q [] (put oi.dst v σ) h) Q σ h->
     oi.wpIn (Fr r) 0 P a w (wpAnyIn (Fr r) 0 P .any ops (fA Γ N G0 ds (QQ Q)) fuel (listed.setIfInBounds i true)) (fA Γ N G0 ds (QQ Q)):=fun σ ht jW H=>
    Y9 hI ht H (fun u v G' h' w' h1 h2 h3 h4=>
     fin _ h' G' w' _ h4 (hle.trans h1) h2 ((ht.mono h1).put ld h3) ((put_defers a oi.dst u).trans mn))
     fun u G' h' w' h1 h2 h3=>⟨G',σ,h',[],hle.trans h1,h2,ht.mono h1,by simpa using mn,fun D hD=>by simp at hD,List.nodup_nil,σ,fun _=>rfl,h3⟩
   have pass:∀σ,TR N G σ a.tmps->Sep σ (mm ops.toList)->mR P Γ B ops.toList Q [] (put oi.dst (.tuple []) σ) h->
     (∀f,oi.about P w a.eval=some f->(Fr r).fn f)/\wpAnyIn (Fr r) 0 P .any ops (fA Γ N G0 ds (QQ Q)) fuel (listed.setIfInBounds i true) (a.put oi.dst undef) w:=fun σ ht jW H=>
    ⟨fun _ _=>trivial,fin _ h G w _ H hle hI (ht.put ld (VR.undef G)) ((put_defers a oi.dst undef).trans mn)⟩
   simp only[mR]at H;unfold Region.wanted;split at H
   .rename_i hg;simp only[hg,if_true];exact run dP uT AN H
   .rename_i j want hg;simp only[hg];unfold Aj at H;split at H
    .rename_i t hj;rw[BZ,Array.getElem?_toList]at hj;rcases IB H with⟨b,hb,H1,H2⟩|⟨hb,H⟩
     .rw[IA uT hj hb];by_cases rF:b=want
      .subst rF;simp only[beq_self_eq_true,if_true];exact run _ (uT.same hb) (AN.eqv (gN.same hb)) (H1 rfl)
      .have:(some b==some want)=false:=by cases b<;>cases want<;>simp_all
       simp only[this,Bool.false_eq_true,if_false];have nI:b=!want:=by cases b<;>cases want<;>simp_all
       exact pass _ (uT.same (hb.trans (by rw[nI]))) (AN.eqv (gN.same (hb.trans (by rw[nI])))) (H2 nI)
     .rw[IC uT hj hb];have:((none:Option Bool)==some want)=false:=rfl;simp only[this,Bool.false_eq_true,if_false];exact pass _ uT AN H
    .exact H.elim
  ·
   have:=lB c kz ((Ge hB lF).2 xM);rw[this]at dG;cases dG
theorem ZN{id c o}(ho:ops[c]? =some o)(ZL:c+1=ops.size)(hB:JJ ops c=true)(hm:P.follows .mixedOrders=true)(hd:Aw ops=true)(hN:mi N ops=true)(jW:Sep σ (mm ops.toList))
  (H:lZ P Γ ops.toList (fun σ h=>mR P Γ B ops.toList Q [o] σ h) (ops.toList.take c) σ h):bw P Γ N (.region id ops true) Q σ h:=fun r G w a hr hI ht=>by
 have kz:c<ops.size:=(Array.getElem?_eq_some_iff.1 ho).1;have hs:=IN _ 0 _ σ σ (Nat.zero_le _) (fun _=>rfl) H;have e2:((List.range ops.size).filter (·<c)).filterMap (ops[·]?)=ops.toList.take c:=by have:=ZI ops.toList c (by simp;omega);simpa using this
 rw[<-e2]at hs;refine wpIn_mono (Q:=fA Γ N G a.defers (QQ Q)) ?_ fun e a' w' hp=>?_
 .refine wpIn_region_any hm (ak9 (B:=B) hd hN ho hB ZL ops.size _ a _ G σ h (by simp) (fun i hi hl=>?_) ?_ ?_ (Gh.le.refl G) ?_ ht rfl jW ?_)
  .simp_all
  .simp[Array.getD_eq_getD_getElem?,kz]
  .rw[Cb];simp
  .exact hI.later (Nat.le_refl _) rfl rfl rfl (fun _ _=>rfl)
  .rw[Cb];exact⟨0,hs⟩
 .obtain⟨G',σ',h',Ds,h1,h2,h3,h4,h5,h6,dP,k1,k2⟩:=hp;exact⟨G',dP,h',Ds,h1,h2,⟨h3.1,fun i=>by rw[<-k1 i];exact h3.2 i⟩,h4,h5,h6,k2⟩
end
def uW(n:Nat)(dep:List (List Nat)):List Nat->List Nat->Bool
 |done,[]=>(List.range n).all fun i=>done.contains i
 |done,i::r=>Nat.blt i n&&((dep.getD i []).all fun d=>done.contains d)&&!done.contains i&&uW n dep (i::done) r
def wg(ops:Array Oper)(i:Nat):Nat:=((ops[i]?).bind (·.dst)).getD 0
def NK(FR:List Nat)(ops:Array Oper):Bool:=(List.range ops.size).all fun i=>((ops[i]?).bind (·.dst)).isSome&&!FR.contains (wg ops i)&&(List.range ops.size).all fun j=>i==j||wg ops i !=wg ops j
section
variable {P:Program} {Γ:GG} {N:Nat} {mV:Tm} {Q:Exit->Tm->AH->Prop}
theorem y_(d:Nat)(v σ):lk (put (some d) v σ) d=v:=by simp[put,lk]
theorem kU{d t:Nat}(h:t≠d)(v σ):lk (put (some d) v σ) t=lk σ t:=by
 have:(d==t)=false:=by simp;omega
 simp[put,lk];try omega
theorem ZX{ops:Array Oper}{K:Tm->AH->Prop}(dep:List (List Nat))(FR:List Nat)(val:Nat->AV)(H:List Nat->AH)(cP:NK FR ops=true)(hg:(ops.toList.all fun o=>o.guard.isNone)=true)
  (step:∀(i:Nat) (o:Oper),ops[i]? =some o->∀(done:List Nat) (σ:Tm),(∀d∈dep.getD i [],d∈done)->(∀d∈done,∀e∈dep.getD d [],e∈done)->i∉done->(∀t∈FR,lk σ t=lk mV t)->(∀d∈done,d<ops.size->lk σ (wg ops d)=val d)->∀C:AV->Tm->AH->Prop,C (val i) σ (H (i::done))->pQ P Γ o C σ (H done))
  (fin:∀(done:List Nat) (σ:Tm),(∀i<ops.size,i∈done)->(∀t∈FR,lk σ t=lk mV t)->(∀i<ops.size,lk σ (wg ops i)=val i)->K σ (H done)):
  ∀(l done:List Nat) (σ:Tm),uW ops.size dep done l=true->(∀d∈done,∀e∈dep.getD d [],e∈done)->(∀t∈FR,lk σ t=lk mV t)->(∀d∈done,d<ops.size->lk σ (wg ops d)=val d)->ke P Γ ops.toList K (l.filterMap (ops[·]?)) σ (H done)
 |[],done,σ,ho,_,h1,h2=>by
  rw[uW,List.all_eq_true]at ho;have hd:∀i<ops.size,i∈done:=fun i hi=>by simpa using ho i (List.mem_range.2 hi)
  exact fin done σ hd h1 fun i hi=>h2 i (hd i hi) hi
 |i::r,done,σ,ho,dG,h1,h2=>by
  simp only[uW,Bool.and_eq_true,List.all_eq_true,Bool.not_eq_true']at ho;obtain⟨⟨⟨k1,k2⟩,k3⟩,k4⟩:=ho;have hi:i<ops.size:=by simpa [Nat.blt_eq]using k1
  have iF:i∉done:=by simpa using k3
  have eo:ops[i]? =some ops[i]:=by simp[hi]
  have ZY:=cP;rw[NK,List.all_eq_true]at ZY;have q:=ZY i (List.mem_range.2 hi);simp only[Bool.and_eq_true,List.all_eq_true,Bool.not_eq_true']at q;obtain⟨⟨q1,q2⟩,q3⟩:=q;have kx:(ops[i]).dst=some (wg ops i):=by rw[eo]at q1;simp only[Option.bind_some]at q1;obtain⟨d,e⟩:=Option.isSome_iff_exists.1 q1;rw[wg,eo,Option.bind_some,e];rfl
  rw[List.filterMap_cons,eo];simp only;have SK:(ops[i]).guard=none:=by have:=List.all_eq_true.1 hg ops[i] (by simp);simpa using this
  rw[ke,SK];simp only;refine step i ops[i] eo done σ (fun d hd=>by simpa using k2 d hd) dG iF h1 h2 _ ?_;rw[kx];refine ZX dep FR val H cP hg step fin r (i::done) _ k4 (fun d hd e he=>by grind) (fun t ht=>?_) (fun d hd tF=>?_)
  .rw[kU (fun e=>by subst e;simp at q2;exact q2 ht)];exact h1 t ht
  .rcases List.mem_cons.1 hd with rfl|hd
   .rw[y_]
   .have cV:i≠d:=fun e=>iF (e▸hd);have:=q3 d (List.mem_range.2 tF);simp only[Bool.or_eq_true,beq_iff_eq,bne_iff_ne,ne_eq]at this;rcases this with e|e
    .exact absurd e cV
    .rw[kU (fun e'=>e e'.symm)];exact h2 d hd tF
theorem ZZ{id ops}(dep FR)(val:Nat->AV)(H:List Nat->AH)(hm:P.follows .mixedOrders=true)(hd:mi N ops=true)(cP:NK FR ops=true)(hg:(ops.toList.all fun o=>o.guard.isNone)=true)
  (ho:((xF ops ops.size (Array.replicate ops.size false)).all fun l=>uW ops.size dep [] l)=true)
  (step:∀(i) (o),ops[i]? =some o->∀(done) (σ),(∀d∈dep.getD i [],d∈done)->(∀d∈done,∀e∈dep.getD d [],e∈done)->i∉done->(∀t∈FR,lk σ t=lk mV t)->(∀d∈done,d<ops.size->lk σ (wg ops d)=val d)->∀C,C (val i) σ (H (i::done))->pQ P Γ o C σ (H done))
  (fin:∀(done) (σ),(∀i<ops.size,i∈done)->(∀t∈FR,lk σ t=lk mV t)->(∀i<ops.size,lk σ (wg ops i)=val i)->Q .normal σ (H done)):
  bw P Γ N (.region id ops true) Q mV (H []):=
 Nh hm hd fun l hl=>ZX dep FR val H cP hg step fin l [] mV (List.all_eq_true.1 ho l hl) (fun _ h=>by simp at h) (fun _ _=>rfl) (fun _ h=>by simp at h)
theorem AP(d op ty pos after C σ h):pQ P Γ {dst:=d,op:=op,type:=ty,pos:=pos,after:=after,guard:=none} C σ h=eW P Γ op C σ h:=(rfl)
end
section
variable {P:Program} {Γ:GG} {G:Gh} {h:AH} {w:World} {N:Nat} {σ:Tm}
def NL(P:Program)(t:TypeId)(name:String):Option (FuncId×Bool):=
 match P.info? t with
 |some i=>(match i.methods.find? (·.name==name)with
  |some m=>if m.path.isEmpty then m.func else none
  |none=>none)
 |none=>none
theorem Iu.ptr{t e v name f}(hu:P.underlying t=some (.pointer e))(hm:NL P t name=some (f,true)):Iu P Γ t v name h f v:=fun G w u hI hv=>by
 refine⟨u,?_,hv⟩;unfold NL at hm;split at hm
 .rename_i i hi;split at hm
  .rename_i m hf;split at hm
   .rename_i hp;have o_:m.path= #[]:=by simpa using hp
    obtain⟨k,SM⟩:∃k,P.types.size+Made.depth=k+1:=⟨P.types.size+99,rfl⟩;rw[SM,method];simp only[typeInfo,Sem.run_bind,run_program,Result.andThen_ok,hi,Sem.run_pure,hf,o_,follow,hm,receiverAt,underlying,hu,Place.get]
   .cases hm
  .cases hm
 .cases hm
theorem wrap(xt ad name):Builtin.ssaWrapNilChk_ #[xt] xt #[.pointer (some ad),strVal "",strVal name]=pure (.pointer (some ad)):=rfl
theorem Iu.cell{t e v x name f}(hu:P.underlying t=some (.pointer e))(hm:NL P t name=some (f,false))(hl:oI P e v h fun y _=>y=x):Iu P Γ t v name h f x:=fun G w u hI hv=>by
 obtain⟨ad,u',av,rfl,r,oa,rfl⟩:=P9 hI hv hl;refine⟨u',?_,oa⟩;unfold NL at hm;split at hm
 .rename_i i hi;split at hm
  .rename_i m hf;split at hm
   .rename_i hp;have o_:m.path= #[]:=by simpa using hp
    obtain⟨k,SM⟩:∃k,P.types.size+Made.depth=k+1:=⟨P.types.size+99,rfl⟩;rw[SM,method];simp only[typeInfo,Sem.run_bind,run_program,Result.andThen_ok,hi,Sem.run_pure,hf,o_,follow,hm,receiverAt,underlying,hu,Place.get,if_true,wrap,asAddr,pure_bind,r,show(#[]:Array FieldStep).isEmpty=true from rfl]
   .cases hm
  .cases hm
 .cases hm
end
section
variable {α:Type} (enc:α->List AV) (n:Nat)
def cR(l:List α)(pad:List AV):List AV:=l.flatMap enc++pad
variable {enc n}
theorem Ek(hn:∀x,(enc x).length=n)(l:List α):(l.flatMap enc).length=l.length*n:=by
 induction l with
 |nil=>simp
 |cons x l ih=>grind
theorem Gl(hn:∀x,(enc x).length=n)(l pad):(cR enc l pad).length=l.length*n+pad.length:=by rw[cR,List.length_append,Ek hn]
theorem SN{l i x}(hx:l[i]? =some x)(pad):cR enc l pad=(l.take i).flatMap enc++(enc x++cR enc (l.drop (i+1)) pad):=by
 have hi:=(List.getElem?_eq_some_iff.1 hx).1;have e:l=l.take i++x::l.drop (i+1):=by rw[List.getElem?_eq_getElem hi]at hx;cases hx;simp
 conv=>lhs;rw[e]
 simp[cR]
theorem NM(hn:∀x,(enc x).length=n){l i x}(hx:l[i]? =some x)(pad):(cR enc l pad).drop (i*n)=enc x++cR enc (l.drop (i+1)) pad:=by have hi:=(List.getElem?_eq_some_iff.1 hx).1;rw[SN hx,List.drop_left' (by rw[Ek hn,List.length_take];congr 1;omega)]
theorem Z1(hn:∀x,(enc x).length=n){l i}(hi:i<l.length)(y pad):(cR enc l pad).take (i*n)++enc y++(cR enc l pad).drop (i*n+n)=cR enc (l.set i y) pad:=by
 have hx:=List.getElem?_eq_getElem hi;have hk:((l.take i).flatMap enc).length=i*n:=by rw[Ek hn,List.length_take];congr 1;omega
 have e2:cR enc (l.set i y) pad=(l.take i).flatMap enc++(enc y++cR enc (l.drop (i+1)) pad):=by have:=SN (enc:=enc) (l:=l.set i y) (i:=i) (x:=y) (by simp[hi]) pad;rw[this,List.take_set_of_le (Nat.le_refl _),List.drop_set_of_lt (Nat.lt_succ_self _)]
 rw[e2,<-List.drop_drop,NM hn hx,List.drop_left' (hn _),SN hx,List.take_left' hk,List.append_assoc]
def za(enc:α->List AV)(n b q:Nat)(j:AH)(T:TypeId)(v:AV)(l:List α):Prop:=
 ∃c pad,v= .ms (b+q) 0 l.length c n/\j[q]? =some (.row (cR enc l pad) T)/\c*n=l.length*n+pad.length/\(∀a∈pad,a.isAgg=false)
theorem alv{cs xs o}(h:o+xs.length<=cs.length):iU cs o xs=cs.take o++xs++cs.drop (o+xs.length):=by
 rcases xs with _|⟨x,_|⟨y,xs⟩⟩
 .rfl
 .rw[XK,List.set_eq_take_append_cons_drop,if_pos (by simp at h;omega)];simp
 .rfl
theorem alw(hn:∀x,(enc x).length=n){l l2 pad}(h:l2.length*n<=pad.length):iU (cR enc l pad) (0+l.length*n) (l2.flatMap enc)=cR enc (l++l2) (pad.drop (l2.length*n)):=by have hk:(l.flatMap enc).length=l.length*n:=Ek hn l;rw[alv (by rw[Gl hn,Ek hn];omega),Nat.zero_add,Ek hn];rw[cR,List.take_left' hk,List.drop_append,hk,List.drop_eq_nil_of_le (by omega),Nat.add_sub_cancel_left,cR,List.flatMap_append];simp
theorem za.get{b q j T v l}(h:za enc n b q j T v l){i:Nat}{k}(hk:b=k.length):∃c pad,v= .ms (b+q) 0 l.length c n/\(k++j)[b+q]? =some (.row (cR enc l pad) T):=by obtain⟨c,pad,h1,h2,_⟩:=h;grind
theorem za.more{b q j T v l}(h:za enc n b q j T v l)(k):za enc n b q (j++k) T v l:=by obtain⟨c,pad,h1,h2,h3⟩:=h;exact⟨c,pad,h1,by grind,h3⟩
theorem SO{l l2 v x ys h j q T by_ z Q}(hn:∀x,(enc x).length=n)(h0:0<n)(hv:(v= .sl [] .full/\l=[])\/za enc n h.length q j T v l)
  (hs:qi x (h++j) ys)(hx:db n ys)(hf:flat ys=l2.flatMap enc)(hl:ys.length=l2.length)(cV:l2≠[])(qj:l.length+l2.length<=9223372036854775807)(nD:(l.length+l2.length)*by_<=140737488355328)
  (H:∀v' q' j',za enc n h.length q' j' T v' (l++l2)->j.length<=j'.length->(∀i,i<j.length->i≠q->j'[i]? =j[i]?)->(q'=q\/j.length<=q')->(∀(i:Nat) (ob),j'[i]? =some ob->j[i]? =some ob\/∃cs,ob=cO.row cs T)->Q v' (h++j')):uH (some (n,by_,z,T)) v x (h++j) Q:=by
 refine⟨ys,hs,hx,?_⟩;have Is:ys≠[]:=fun e=>by grind
 have snoc:∀Z2 (i:Nat) (ob:cO),(j++[.row Z2 T])[i]? =some ob->j[i]? =some ob\/∃cs,ob= .row cs T:=fun Z2 i ob e=>by grind
 rcases hv with⟨rfl,rfl⟩|⟨c,pad,rfl,h2,h3,h4⟩
 .refine⟨by rw[hl];simpa using qj,by rw[hl];simpa using nD,fun e=>absurd e Is,fun _ c hc=>?_⟩;rw[hf,List.append_assoc,hl];have:=H (.ms (h++j).length 0 l2.length c n) j.length (j++[.row (l2.flatMap enc++List.replicate ((c-l2.length)*n) .top) T]) ⟨c,List.replicate ((c-l2.length)*n) .top,by simp,by simp[cR],by
   rw[List.length_replicate,List.nil_append,<-Nat.add_mul];congr 1;omega,fun a ha=>by rw[List.eq_of_mem_replicate ha];rfl⟩ (by simp) (fun i hi _=>by rw[List.getElem?_append_left hi]) (.inr (Nat.le_refl _)) (snoc _)
  exact this
 .have hq:=(List.getElem?_eq_some_iff.1 h2).1;have hg:(h++j)[h.length+q]? =some (.row (cR enc l pad) T):=by rw[nK];exact h2
  have z8:l.length<=c:=Nat.le_of_mul_le_mul_right (c:=n) (by omega) h0;rw[hl];refine⟨rfl,qj,nD,z8,?_⟩;rw[hg];refine⟨by rw[Gl hn];omega,fun hle=>?_,fun dN c' qt=>?_⟩
  .have IJ:=Nat.mul_le_mul_right n hle;rw[Nat.add_mul]at IJ;have:=H (.ms (h.length+q) 0 (l.length+l2.length) c n) q (j.set q (.row (cR enc (l++l2) (pad.drop (l2.length*n))) T)) ⟨c,pad.drop (l2.length*n),by simp,by simp[hq],by
    rw[List.length_append,Nat.add_mul,List.length_drop];omega,fun a ha=>h4 a (List.mem_of_mem_drop ha)⟩ (by simp) (fun i _ hi=>by grind) (.inl rfl) (fun k ob e=>by grind)
   rw[mq,hf,alw hn (by omega)];exact this
  .have rI:(l.flatMap enc).length=l.length*n:=Ek hn l;have:=H (.ms (h++j).length 0 (l.length+l2.length) c' n) j.length (j++[.row (cR enc (l++l2) (List.replicate ((c'-(l.length+l2.length))*n) .top)) T]) ⟨c',List.replicate ((c'-(l.length+l2.length))*n) .top,by simp,by simp,by
    rw[List.length_append,List.length_replicate,<-Nat.add_mul];congr 1;omega,fun a ha=>by rw[List.eq_of_mem_replicate ha];rfl⟩ (by simp) (fun i hi _=>by rw[List.getElem?_append_left hi]) (.inr (Nat.le_refl _)) (snoc _)
   rw[hf,List.drop_zero,cR,List.take_left' rI];simpa [cR]using this
theorem Z3(hn:∀x,(enc x).length=n)(h1:n≠1):∀(l:List α) (pad:List AV),rowsOf n l.length (cR enc l pad)=l.map fun x=> .agg (enc x)
 |[],_=>rfl
 |x::l,pad=>by
  rw[List.length_cons,rowsOf,if_neg h1,List.map_cons];have e:cR enc (x::l) pad=enc x++cR enc l pad:=by simp[cR]
  rw[e,List.take_left' (hn x),List.drop_left' (hn x),Z3 hn h1 l pad]
theorem alx(hn:∀x,(enc x).length=n)(h0:0<n)(h1:n≠1){i c l pad}(hc:c*n=l.length*n+pad.length)(hp:∀a∈pad,a.isAgg=false)(he:∀x,∀a∈enc x,a.isAgg=false):
  dd i (cR enc l pad) (.ms i 0 l.length c n)= .sl (l.map fun x=> .agg (enc x)) .free:=by
 rw[dd,if_pos,List.drop_zero,Z3 hn h1];refine⟨rfl,?_⟩;have z8:l.length<=c:=Nat.le_of_mul_le_mul_right (c:=n) (by omega) h0;simp only[tQ,Bool.and_eq_true,decide_eq_true_eq,bne_iff_ne,List.all_eq_true,Bool.not_eq_true',Gl hn];refine⟨⟨⟨by omega,z8⟩,by omega⟩,fun a ha=>?_⟩;rcases List.mem_append.1 ha with ha|ha
 .grind
 .exact hp a ha
end
section
variable {P:Program} {Γ:GG}
theorem az.aly{f args h}{R:AV->Prop}(H:az P Γ f args h fun v h'=>(∃l,h'=h++l)/\((RB h.length (loose v)/\R (loose v))\/∃q cs T,h'[h.length+q]? =some (.row cs T)/\RB h.length (loose (dd (h.length+q) cs v))/\R (loose (dd (h.length+q) cs v)))):
  az P Γ f args h fun v h'=>h'=h/\R v:=by
 refine az.ji ⟨H.1,fun G w vs hI hv=>(H.2 G w vs hI hv).mono fun e w' hr=>?_⟩;obtain⟨v,G',av,h',k1,k2,k3,k4,⟨l,rfl⟩,k5|⟨q,cs,T,e1,k5⟩⟩:=hr
 .exact⟨v,G',av,_,k1,k2,k3,k4,⟨l,rfl⟩,k5⟩
 .obtain⟨b,vals,q1,q2,q3⟩:=k3.freeze e1 (jM.set e1);exact⟨v,_,_,_,k1,k2.trans q1,q2,q3 _ _ k4,⟨l.set q .frozen,mq h l q .frozen⟩,k5⟩
variable {h:AH} {N:Nat} {σ:Tm} {Q:Exit->Tm->AH->Prop}
def Z4(kp:List Nat)(G:Tm->AH->Prop):Exit->Tm->AH->Prop
 | .normal,σ,h=>G (keep kp σ) h
 |_,_,_=>False
@[go_sem] theorem aB_(kp G):Z4 kp G .normal σ h=G (keep kp σ) h:=(rfl)
theorem SP{c d}(kp G)(H:bw P Γ N c (Z4 kp G) σ h)(T:∀σ h,G σ h->bw P Γ N d Q σ h):bw P Γ N (.seq c d) Q σ h:=
 fR (H.mono fun e σ h he=>by
  cases e with
  |normal=>exact bw.keep kp (T _ _ he)
  |_=>exact he.elim)
def SQ(kp:List Nat)(st:Tm)(I:AH->Prop)(Q:Exit->Tm->AH->Prop):Exit->Tm->AH->Prop
 | .normal,σ,h=>I h/\keep kp σ=st
 |e,σ,h=>Q e σ h
@[go_sem] theorem aCa{kp st I}:SQ kp st I Q .normal σ h=(I h/\keep kp σ=st):=(rfl)
@[go_sem] theorem aCb{kp st I}:SQ kp st I Q .ret σ h=Q .ret σ h:=(rfl)
theorem JQ{α:Type}{c}(xs L)(st:List α->Tm)(inv:List α->List α->AH->Prop)(h1:keep L σ=st [])(h3:inv [] xs h)
  (H1:∀ae x r h,xs=ae++x::r->inv ae (x::r) h->bw P Γ N c (SQ L (st (ae++[x])) (inv (ae++[x]) r) Q) (st ae) h)
  (H0:∀h,inv xs [] h->bw P Γ N c (DQ Q) (st xs) h):bw P Γ N (.loop c) Q σ h:=by
 refine Iw (fun n σ h=>∃ae rest,n=rest.length/\xs=ae++rest/\inv ae rest h/\keep L σ=st ae) ⟨[],xs,rfl,rfl,h3,h1⟩ fun n σ h hx=>?_;obtain⟨ae,rest,rfl,iX,hi,hs⟩:=hx;refine bw.keep L ?_;rw[hs];cases rest with
 |nil=>
  rw[List.append_nil]at iX;subst iX;refine(H0 h hi).mono fun e σ h he=>?_;cases e with
  |normal=>exact he.elim
  |_=>exact he
 |cons x r=>
  refine(H1 ae x r h iX hi).mono fun e σ h he=>?_;cases e with
  |normal=>exact⟨r.length,by simp,ae++[x],r,rfl,by simp[iX],he.1,he.2⟩
  |_=>exact he
theorem SR{ops:Array Oper}{K:Tm->AH->Prop}(dep:List (List Nat))(Iv:List Nat->Tm->AH->Prop)(hg:(ops.toList.all fun o=>o.guard.isNone)=true)
  (step:∀(i:Nat) (o:Oper),ops[i]? =some o->∀(done:List Nat) (σ:Tm) (h:AH),Iv done σ h->(∀d∈dep.getD i [],d∈done)->(∀d∈done,∀e∈dep.getD d [],e∈done)->i∉done->∀C:AV->Tm->AH->Prop,(∀v h',Iv (i::done) (put o.dst v σ) h'->C v σ h')->pQ P Γ o C σ h)
  (fin:∀(done:List Nat) (σ:Tm) (h:AH),(∀i<ops.size,i∈done)->Iv done σ h->K σ h):
  ∀(l done:List Nat) (σ:Tm) (h:AH),uW ops.size dep done l=true->(∀d∈done,∀e∈dep.getD d [],e∈done)->Iv done σ h->ke P Γ ops.toList K (l.filterMap (ops[·]?)) σ h
 |[],done,σ,h,ho,_,h1=>by rw[uW,List.all_eq_true]at ho;exact fin done σ h (fun i hi=>by simpa using ho i (List.mem_range.2 hi)) h1
 |i::r,done,σ,h,ho,dG,h1=>by
  simp only[uW,Bool.and_eq_true,List.all_eq_true,Bool.not_eq_true']at ho;obtain⟨⟨⟨k1,k2⟩,k3⟩,k4⟩:=ho;have hi:i<ops.size:=by simpa [Nat.blt_eq]using k1
  have iF:i∉done:=by simpa using k3
  have eo:ops[i]? =some ops[i]:=by simp[hi]
  rw[List.filterMap_cons,eo];simp only;have SK:(ops[i]).guard=none:=by have:=List.all_eq_true.1 hg ops[i] (by simp);simpa using this
  rw[ke,SK];simp only;refine step i ops[i] eo done σ h h1 (fun d hd=>by simpa using k2 d hd) dG iF _ fun v h' hv=>?_;exact SR dep Iv hg step fin r (i::done) _ h' k4 (fun d hd e he=>by grind) hv
theorem alz{id ops}(dep)(Iv:List Nat->Tm->AH->Prop)(hm:P.follows .mixedOrders=true)(hd:mi N ops=true)(hg:(ops.toList.all fun o=>o.guard.isNone)=true)
  (ho:((xF ops ops.size (Array.replicate ops.size false)).all fun l=>uW ops.size dep [] l)=true)(h0:Iv [] σ h)
  (step:∀(i) (o),ops[i]? =some o->∀(done) (σ) (h),Iv done σ h->(∀d∈dep.getD i [],d∈done)->(∀d∈done,∀e∈dep.getD d [],e∈done)->i∉done->∀C,(∀v h',Iv (i::done) (put o.dst v σ) h'->C v σ h')->pQ P Γ o C σ h)
  (fin:∀(done) (σ) (h),(∀i<ops.size,i∈done)->Iv done σ h->Q .normal σ h):
  bw P Γ N (.region id ops true) Q σ h:=
 Nh hm hd fun l hl=>SR dep Iv hg step fin l [] σ h (List.all_eq_true.1 ho l hl) (fun _ h=>by simp at h) h0
theorem SS{g ps assign body gf first iQ}(hg:ev Γ σ g= .func gf first iQ)
  (H:∀li,li=⟨N,σ,ps,assign,body,none⟩->az P Γ gf (first++[.yield h.length]++iQ) (h++[.loop .ready none li]) fun _ h'=>∃st pe,h'[h.length]? =some (.loop st pe li)/\(∀(i) (ob),i≠h.length->h'[i]? =some ob->h[i]? =some ob\/∀st pe li,ob≠ .loop st pe li)/\st≠ .busy/\uK P Γ N Q σ (h'.set h.length .dead) pe):
  bw P Γ N (.rangeFunc g ps assign body) Q σ h:=RQ hg fun li e=>(H li e).mono fun _ h' ⟨st,pe,hL,tu,fC,ha⟩=>by
 have dN:=(List.getElem?_eq_some_iff.1 hL).1;have hg':=(List.getElem?_eq_some_iff.1 hL).2;have pN:h'.set h.length .dead=h'.take h.length++ .dead::h'.drop (h.length+1):=by rw[List.set_eq_take_append_cons_drop,if_pos dN]
 refine⟨h'.take h.length,st,pe,h'.drop (h.length+1),?_,by rw[List.length_take];omega,fun i ob e=>?_,fC,by rw[<-pN];exact ha⟩
 .have:=List.take_append_drop h.length h';rw[List.drop_eq_getElem_cons dN,hg']at this;exact this.symm
 grind
end
def NN{α:Type}(P:Program)(Γ:GG)(f:FuncId)(iQ:List AV)(enc:α->List AV)(items:List α):Prop:=
 ∀(L:Nat) (I:List α->AH->Prop) (S:AH->Prop) (h0:AH),
  (∀ae h l,fk l->I ae h->I ae (h++l))->(∀h l,fk l->S h->S (h++l))->
  (∀ae x r h,items=ae++x::r->I ae h->rD P Γ L (enc x) h fun v h'=>(v= .bool true/\I (ae++[x]) h')\/(v= .bool false/\S h'))->
  I [] h0->az P Γ f ([.yield L]++iQ) h0 fun _ h'=>I items h'\/S h'
section
variable {P:Program} {Γ:GG} {N:Nat} {σ:Tm} {Q:Exit->Tm->AH->Prop}
theorem fk.Gm{a b}(ha:fk a)(hb:fk b):fk (a++b):=fun ob ho=>(List.mem_append.1 ho).elim (ha ob) (hb ob)
theorem fk.none:fk []:=fun ob ho=>by cases ho
theorem fk.Cu(cs T):fk [.row cs T]:=fun ob ho st pe lj e=>by grind
theorem Z5{α enc items g ps assign body gf iQ}(hit:NN P Γ gf iQ enc items)(hg:ev Γ σ g= .func gf [] iQ)
  (K)(F:List α->AH)(Fs ec)(J:List α->Prop)(St c)(hF:∀ae,(F ae).length=c)(Gd:∀ae,fk (F ae))(Ct:Fs.length=c)(SD:fk Fs)(hJ:J [])
  (yl:∀li,li=⟨N,σ,ps,assign,body,none⟩->∀ae y r Y,items=ae++y::r->J ae->rD P Γ (K.length+c) (enc y) (K++F ae++ .loop .ready none li::Y) fun v h'=>(v= .bool true/\J (ae++[y])/\∃Z,fk Z/\h'=K++F (ae++[y])++ .loop .ready none li::(Y++Z))\/(v= .bool false/\St/\∃Z,fk Z/\h'=K++Fs++ .loop .done (some ec) li::(Y++Z)))
  (hN:J items->∀Y,Q .normal σ (K++F items++ .dead::Y))
  (hS:St->∀Y,bw P Γ N ec Q σ (K++Fs++ .dead::Y)):bw P Γ N (.rangeFunc g ps assign body) Q σ (K++F []):=by
 refine RQ hg fun li iZ=>?_;have hl:∀A:AH,A.length=c->(K++A).length=K.length+c:=fun A e=>by rw[List.length_append,e]
 rw[hl _ (hF [])];have Z6:∀(A:AH) (Y:AH),A.length=c->fk A->fk Y->∀(i:Nat) (ob:cO),(K++A++ .dead::Y)[i]? =some ob->(K++F [])[i]? =some ob\/∀st pe li,ob≠ .loop st pe li:=fun A Y e hA hY i ob he=>by
  by_cases hi:i<K.length
  .grind
  .rw[List.append_assoc,List.getElem?_append_right (by omega)]at he;right;rcases List.mem_append.1 (List.mem_of_getElem? he)with h|h
   .exact hA ob h
   .rcases List.mem_cons.1 h with rfl|h
    .exact fun _ _ _=>by simp
    .exact hY ob h
 refine(hit (K.length+c) (fun ae hx=>J ae/\∃Y,fk Y/\hx=K++F ae++ .loop .ready none li::Y) (fun hx=>St/\∃Y,fk Y/\hx=K++Fs++ .loop .done (some ec) li::Y) _ ?_ ?_ ?_ ⟨hJ,[],fk.none,rfl⟩).mono ?_
 .rintro ae hx l hl ⟨j,Y,hY,rfl⟩;exact⟨j,Y++l,hY.Gm hl,by simp⟩
 .rintro hx l hl ⟨j,Y,hY,rfl⟩;exact⟨j,Y++l,hY.Gm hl,by simp⟩
 .rintro ae x r hx hd ⟨j,Y,hY,rfl⟩;refine(yl li iZ ae x r Y hd j).mono ?_;rintro v h' (⟨e,j2,Z,hZ,rfl⟩|⟨e,j2,Z,hZ,rfl⟩)
  .exact .inl ⟨e,j2,_,hY.Gm hZ,rfl⟩
  .exact .inr ⟨e,j2,_,hY.Gm hZ,rfl⟩
 .rintro v h' (⟨j,Y,hY,rfl⟩|⟨j,Y,hY,rfl⟩)
  .refine⟨K++F items,.ready,none,Y,rfl,hl _ (hF _),Z6 _ _ (hF _) (Gd _) hY,by simp,?_⟩;rw[Cf];exact hN j Y
  .refine⟨K++Fs,.done,some ec,Y,rfl,hl _ Ct,Z6 _ _ Ct SD hY,by simp,?_⟩;exact hS j Y
end
end Go.aS
