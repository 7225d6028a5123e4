import GoSem.Core.View
import GoSem.Core.Utf8
set_option linter.all false
namespace Ab
open Go (BinOp IntKind UnOp)
inductive SK where|nil|tight|any|mem deriving DecidableEq
def SK.cut:SK->SK|.nil=>.nil|.any=>.any|_=>.mem
inductive PV where|int(k:IntKind)(n:Int)|bool(b:Bool)|str(s:List UInt8)|nilp|nilfn|nilmap|clo(f:Nat)(caps:List PV)|sl(k:SK)(sz:Nat)(xs:List PV)|ptr(cells:List PV)|agg(cells:List PV)
def PV.cells:PV->List PV|.agg cs=>cs|v=>[v]
inductive AV where|p(v:PV)|own(id n:Nat)|bx(id off:Nat)|el(id n i off:Nat)|mp(id:Nat)|agg(cs:List AV)|tup(cs:List AV)|clo(f:Nat)(caps:List AV)|nov|any
inductive Blk where|box(cells:List AV)|row(frozen:Bool)(sz:Nat)(xs:List PV)|dead
abbrev Heap:=List Blk
abbrev Env:=List (Nat×AV)
def look:Env->Nat->AV|[],_=>.any|(s,v)::r,t=>if s=t then v else look r t
def AV.cells:AV->List AV|.p v=>v.cells.map .p|.agg cs=>cs|v=>[v]
def PV.one:PV->Bool|.agg _=>false|_=>true
def AV.one:AV->Bool|.p v=>v.one|.own _ _|.bx _ _|.el _ _ _ _|.mp _|.clo _ _=>true|_=>false
def AV.ok:AV->Bool|.p _|.own _ _|.bx _ _|.el _ _ _ _|.mp _|.clo _ _|.agg _=>true|_=>false
def AV.isP:AV->Bool|.p _=>true|_=>false
def iT:List AV->Option (List PV)|[]=>some []|.p v::r=>(iT r).map (v::·)|_=>none
def mkAgg(cs:List AV):AV:=match iT cs with|some ps=>.p (.agg ps)|none=>.agg cs
inductive KD where|int(k:IntKind)|bool|str
def rV:KD->PV->Bool|.int k,.int k' _=>decide (k'=k)|.bool,.bool _=>true|.str,.str _=>true|_,_=>false
def mkZ:List PV->AV|[v]=>.p v|vs=>.p (.agg vs)
inductive Arg where|v(t:Nat)|c(x:PV)|g(n:Nat)|f(n:Nat)
structure Parts where
 off:Nat
 sz:Nat
 arg:Arg
inductive QOp where|mov(x:Arg)|pick(c a b:Arg)|nilchk(x:Arg)|bin(op:BinOp)(x y:Arg)|eqs(kds:List Nat)(neg:Bool)(x y:Arg)|eqk(kd:Nat)(neg:Bool)(x y:Arg)|un(op:UnOp)(x:Arg)|conv(k:IntKind)(x:Arg)|same(x:Arg)|strOf(x:Arg)|runeStr(x:Arg)|len(s:Bool)(x:Arg)|idx(x i:Arg)|aidx(sz:Nat)(ag:Bool)(n:Nat)(x i:Arg)|fld(off sz:Nat)(ag:Bool)(x:Arg)|faddr(off:Nat)(x:Arg)|iaddr(sz:Nat)(x i:Arg)|iaddrA(sz n:Nat)(x i:Arg)|load(sz:Nat)(ag:Bool)(x:Arg)|sliceS(x:Arg)(lo hi:Option Arg)|slice(sz:Nat)(x:Arg)(lo hi:Option Arg)|build(zero:List PV)(parts:List Parts)|bslice(sz:Nat)(ag:Bool)(n:Nat)(zero:List PV)(parts:List Parts)|ext(x:Arg)(i:Nat)|minmax(mx:Bool)(xs:List Arg)|clos(f:Nat)(caps:List Arg)|call(f:Arg)(args:List Arg)|callr(f:Arg)(args:List Arg)|mkt(sz:Nat)(ag:Bool)(zero:List PV)(len cap:Arg)|appq(sz:Nat)(x y:Arg)|mget(kd:KD)(zero:List PV)(comma:Bool)(x k:Arg)|mlen(x:Arg)|isnil(neg:Bool)(x y:Arg)|loadk(sz:Nat)(ag:Bool)(x k:Arg)|lenk(x k:Arg)|wslice(sz:Nat)(x:Arg)(lo hi:Option Arg)|bad
inductive XOp where|alloc(zero:List PV)|box(x:Arg)|store(sz:Nat)(x v:Arg)|mkslice(sz:Nat)(ag:Bool)(zero:List PV)(len cap:Arg)|newrow(sz:Nat)|append(sz:Nat)(x y:Arg)|appendS(x y:Arg)|copy(sz:Nat)(x y:Arg)|bytesOf(x:Arg)|range(x:Arg)|next(x:Arg)|slicef(sz:Nat)(x:Arg)(lo hi:Option Arg)|bslicef(sz:Nat)(ag:Bool)(n:Nat)(zero:List PV)(parts:List Parts)|fbox(x:Arg)|callz(f:Arg)(args:List Arg)|pureq(q:QOp)|callf(f:Arg)(args:List Arg)|calls(f:Arg)(args:List Arg)|treeq(q:QOp)|brow(sz:Nat)(ag:Bool)(n:Nat)(zero:List PV)(parts:List Parts)|mkmap|mset(kd:KD)(x k v:Arg)|msets(ks:List Nat)(x k v:Arg)|mdel(kd:KD)(x k:Arg)|popf(sz:Nat)(x hi:Arg)|callk(f:Arg)(args ks:List Arg)|callw(f:Arg)(args:List Arg)|callwk(f:Arg)(args ks:List Arg)|storek(sz:Nat)(x v:Arg)(ks:List Arg)|appt(sz:Nat)(x y:Arg)|appk(sz:Nat)(x y:Arg)(ks:List Arg)|bslk(sz:Nat)(ag:Bool)(n:Nat)(zero:List PV)(parts:List Parts)(ks:List Arg)|callwr(f:Arg)(args:List Arg)
structure St where
 dst:Option Nat
 g:Option (Nat×Bool)op:QOp⊕XOp
inductive Code where|skip|ops(live:List Nat)(l:List St)|seq(a b:Code)|cond(c:Arg)(a b:Code)|block(live:List Nat)(id:Nat)(c:Code)|loop(live:List Nat)(gc:Option Nat)(c:Code)|exit(id:Nat)|ret|bad
inductive RV where|slot(t:Nat)|cell(t sz:Nat)(ag:Bool)
abbrev rm:=Nat->List AV->Heap->Option (List AV×Heap)
def nL(c c':rm):Prop:=∀f a H r,c f a H=some r->c' f a H=some r
structure HiFn where go:rm->List AV->Heap->Option (List AV×Heap)mono:∀c c',nL c c'->∀a H r,go c a H=some r->go c' a H=some r
structure AFn where
 np:Nat
 results:List RV
 body:Code
inductive Fn where|code(f:AFn)|prim(g:List PV->Option (List PV))|fresh(g:List PV->Option (Nat×List PV))|upd(g:List PV->Nat->List PV->Option (List PV))|look(g:List AV->Heap->Option (List PV))|lookc(c:Nat)(q:List AV->Heap->Option (List (List PV×Int)))(g:List AV->Heap->Option (List PV))|hi(g:HiFn)
structure Ctx where
 fn:Nat->Option Fn
 gl:Nat->Option (List PV)gi:List Nat
def Code.still(k:Nat):Code->Bool|.seq a b=>a.still k&&b.still k|.cond _ a b=>a.still k&&b.still k|.block _ _ c=>c.still k|.loop _ gc c=>(match gc with|none=>true|some j=>decide (k<=j))&&c.still k|_=>true
def ir(Γ:Ctx)(k f:Nat):Bool:=match Γ.fn f with|some (.code fn)=>fn.body.still k|some _=>true|none=>false
def Code.stillA:Code->Bool|.seq a b=>a.stillA&&b.stillA|.cond _ a b=>a.stillA&&b.stillA|.block _ _ c=>c.stillA|.loop _ gc c=>gc.isNone&&c.stillA|_=>true
def aw(Γ:Ctx)(f:Nat):Bool:=match Γ.fn f with|some (.code fn)=>fn.body.stillA|some _=>true|none=>false
theorem Code.stillA_still{k:Nat}:∀{c:Code},c.stillA=true->c.still k=true
 |.seq a b,h=>by simp[stillA,still,]at h⊢;exact⟨stillA_still h.1,stillA_still h.2⟩|.cond _ a b,h=>by simp[stillA,still,]at h⊢;exact⟨stillA_still h.1,stillA_still h.2⟩|.block _ _ c,h=>by simp[still]at h⊢;exact stillA_still h|.loop _ e c,h=>by simp[stillA,still,]at h⊢;refine⟨?_,stillA_still h.2⟩;grind|.skip,_=>rfl|.ops _ _,_=>rfl|.exit _,_=>rfl|.ret,_=>rfl|.bad,_=>rfl
theorem Kn{Γ:Ctx}{k f:Nat}(h:aw Γ f=true):ir Γ k f=true:=by unfold aw at h;unfold ir;cases e:Γ.fn f with|none=>grind|some x=>rw[e]at h;cases x with|code fn=>exact Code.stillA_still h|prim g=>rfl|fresh g=>rfl|upd g=>rfl|look g=>rfl|lookc c q g=>rfl|hi g=>rfl
def maxI:Int:=9223372036854775807
def lim:Nat:=1073741824
def gt(op:BinOp)(k:IntKind)(a b:Int):Option PV:=match op with|.add=>some (.int k (k.wrap (a+b)))|.sub=>some (.int k (k.wrap (a-b)))|.mul=>some (.int k (k.wrap (a*b)))|.quo=>if b=0 then none else some (.int k (k.wrap (a.tdiv b)))|.rem=>if b=0 then none else some (.int k (a.tmod b))|.and=>some (.int k (k.wrap ((BitVec.ofInt k.bits a&&&BitVec.ofInt k.bits b).toNat:Int)))|.or=>some (.int k (k.wrap ((BitVec.ofInt k.bits a|||BitVec.ofInt k.bits b).toNat:Int)))|.xor=>some (.int k (k.wrap ((BitVec.ofInt k.bits a^^^BitVec.ofInt k.bits b).toNat:Int)))|.andNot=>some (.int k (k.wrap ((BitVec.ofInt k.bits a&&&~~~BitVec.ofInt k.bits b).toNat:Int)))|.eql=>some (.bool (a==b))|.neq=>some (.bool (a !=b))|.lss=>some (.bool (decide (a<b)))|.leq=>some (.bool (decide (a<=b)))|.gtr=>some (.bool (decide (b<a)))|.geq=>some (.bool (decide (b<=a)))|.shl=>if b<0 then none else some (.int k (k.wrap (a*2^(min b.toNat k.bits))))|.shr=>if b<0 then none else some (.int k (a.fdiv (2^(min b.toNat k.bits))))
def bytesLess:List UInt8->List UInt8->Bool|_,[]=>false|[],_::_=>true|a::x,b::y=>a<b||(a==b&&bytesLess x y)
def xd(op:BinOp)(a b:List UInt8):Option PV:=match op with|.add=>if((a.length+b.length:Nat):Int)<=maxI then some (.str (a++b))else none|.eql=>some (.bool (a==b))|.neq=>some (.bool (!(a==b)))|.lss=>some (.bool (bytesLess a b))|.leq=>some (.bool (bytesLess a b||a==b))|.gtr=>some (.bool (!(bytesLess a b||a==b)))|.geq=>some (.bool (!bytesLess a b))|_=>none
def aN:List Nat->List PV->List PV->Option Bool|[],[],[]=>some true|0::ks,.int k a::x,.int k' b::y=>if k=k' then(aN ks x y).map ((a==b)&&·)else none|1::ks,.bool a::x,.bool b::y=>(aN ks x y).map ((a==b)&&·)|2::ks,.str a::x,.str b::y=>(aN ks x y).map ((a==b)&&·)|_,_,_=>none
def eqK:Nat->AV->AV->Option Bool|1,.p (.bool a),.p (.bool b)=>some (a==b)|3,.p .nilp,.p .nilp=>some true|3,.p (.ptr _),.p .nilp=>some false|3,.p .nilp,.p (.ptr _)=>some false|3,.bx _ _,.p .nilp=>some false|3,.p .nilp,.bx _ _=>some false|4,.p (.sl .nil _ _),.p (.sl .nil _ _)=>some true|4,.p (.sl .tight _ _),.p (.sl .nil _ _)=>some false|4,.p (.sl .mem _ _),.p (.sl .nil _ _)=>some false|4,.p (.sl .any _ (_::_)),.p (.sl .nil _ _)=>some false|5,.p .nilfn,.p .nilfn=>some true|5,.p (.clo _ _),.p .nilfn=>some false|5,.clo _ _,.p .nilfn=>some false|_,_,_=>none
def ly(op:BinOp)(x y:PV):Option PV:=match x,y with|.int k a,.int k' b=>if k=k'\/op=.shl\/op=.shr then gt op k a b else none|.str a,.str b=>xd op a b|_,_=>none
def cb(op:BinOp)(x y:AV):Option AV:=match x,y with|.p x,.p y=>(ly op x y).map .p|_,_=>none
def eqsA(kds:List Nat)(neg:Bool):AV->AV->Option AV|.p (.agg a),.p (.agg b)=>(aN kds a b).map λt=>.p (.bool (t !=neg))|_,_=>none
def eqkA(kd:Nat)(neg:Bool)(x y:AV):Option AV:=(eqK kd x y).map λt=>.p (.bool (t !=neg))
def unPV(op:UnOp)(x:PV):Option PV:=match op,x with|.neg,.int k n=>some (.int k (k.wrap (0-n)))|.xor,.int k n=>some (.int k (k.wrap ((BitVec.ofInt k.bits (if k.signed then-1 else k.max)^^^BitVec.ofInt k.bits n).toNat:Int)))|.not,.bool b=>some (.bool (!b))|_,_=>none
def qb(sz:Nat)(ag:Bool)(cs:List PV):Option AV:=if ag then(if sz<=cs.length then some (.p (.agg (cs.take sz)))else none)else cs.head?.map .p
def takeA(sz:Nat)(ag:Bool)(cs:List AV):Option AV:=if ag then(if sz<=cs.length then some (mkAgg (cs.take sz))else none)else cs.head?
def rowOf(H:Heap)(id n:Nat):Option (Nat×List PV):=match H[id]? with|some (.row _ sz xs)=>if xs.length=n then some (sz,xs)else none|_=>none
def dj(H:Heap)(id:Nat):Option (List AV):=match H[id]? with|some (.box (.nov::_))=>none|some (.box cs)=>some cs|_=>none
def ki:List (PV×AV)->List AV|[]=>[]|(k,v)::r=>.p k::v::ki r
def ak(es:List (PV×AV)):List AV:=.nov::.nov::ki es
def qR:List AV->Option (List (PV×AV))|[]=>some []|.p k::v::r=>(qR r).map ((k,v)::·)|_=>none
def mapOf(H:Heap)(id:Nat):Option (List (PV×AV)):=match H[id]? with|some (.box (.nov::.nov::cs))=>qR cs|_=>none
def uo:PV->PV->Option Bool|.int k a,.int k' b=>if k=k' then some (a==b)else none|.str a,.str b=>some (a==b)|.bool a,.bool b=>some (a==b)|_,_=>none
def pZ(k:PV):List (PV×AV)->Option (Option AV)|[]=>some none|(k',v)::r=>match uo k k' with|some true=>some (some v)|some false=>pZ k r|none=>none
def mput(k:PV)(v:AV):List (PV×AV)->Option (List (PV×AV))|[]=>some [(k,v)]|(k',v')::r=>match uo k k' with|some true=>some ((k,v)::r)|some false=>(mput k v r).map ((k',v')::·)|none=>none
def Ou(k:PV):List (PV×AV)->Option (List (PV×AV))|[]=>some []|(k',v')::r=>match uo k k' with|some true=>some r|some false=>(Ou k r).map ((k',v')::·)|none=>none
def bX(s:List UInt8)(pos:Nat):List AV:=[.nov,.p (.str s),.p (.int .i64 (pos:Int))]
def ifB{α:Type}(b:Bool)(x:Option α):Option α:=match b with|true=>x|false=>none
def mapO{α β:Type}(f:α->Option β):List α->Option (List β)|[]=>some []|c::r=>match f c with
  |some x=>match mapO f r with|some xs=>some (x::xs)|none=>none
  |none=>none
def aI(H:Heap):Nat->AV->Option PV|0,.p v=>some v|0,_=>none|d+1,v=>match v with|.p v=>some v|.own id n=>(rowOf H id n).map λr=>.sl .any r.1 r.2|.bx id off=>(dj H id).bind λcs=>if off<cs.length then(mapO (aI H d) (cs.drop off)).map .ptr else none|.el id n i off=>if n<=i then(rowOf H id n).bind λr=>if i-n<n/\i-n<=off/\off<=n then some (.sl .mem r.1 ((r.2.take off).drop (i-n)))else none else(rowOf H id n).bind λr=>r.2[i]?.bind λx=>if off<x.cells.length then some (.ptr (x.cells.drop off))else none|.agg cs=>(mapO (aI H d) cs).map .agg|.clo f cs=>(mapO (aI H d) cs).map (.clo f)|_=>none
def Ud:PV->Bool|.int _ _|.bool _|.str _|.nilp|.nilfn|.nilmap=>true|.sl .nil _ _=>true|_=>false
def flat:PV->Bool|.agg cs=>cs.all Ud|v=>Ud v
def allP:List AV->Bool|[]=>true|.p _::r=>allP r|_=>false
def freeze(H:Heap):List AV->Heap|[]=>H|.own id _::r=>freeze (match H[id]? with|some (.row _ sz xs)=>H.set id (.row true sz xs)|_=>H) r|_::r=>freeze H r
def pW:List AV->Bool|[]=>true|.p _::r|.own _ _::r=>pW r|_=>false
def results:List AV->AV|[v]=>v|vs=>.tup vs
def AV.refs:AV->List Nat
 |.own id _|.bx id _|.el id _ _ _|.mp id=>[id]|.agg cs|.tup cs|.clo _ cs=>cs.flatMap λ
  |.own id _|.bx id _|.el id _ _ _|.mp id=>[id]|.agg cs|.tup cs|.clo _ cs=>cs.flatMap λ|.own id _|.bx id _|.el id _ _ _|.mp id=>[id]|_=>[]
  |_=>[]
 |_=>[]
def Blk.refs:Blk->List Nat|.box cs=>cs.flatMap AV.refs|_=>[]
def fP(H:Heap):Nat->List Nat->List Nat->List Nat|0,_,acc=>acc|_+1,[],acc=>acc|n+1,id::r,acc=>if acc.contains id then fP H n r acc else fP H n (r++(match H[id]? with|some b=>b.refs|none=>[])) (acc++[id])
def place(L:List Nat)(id:Nat):Option Nat:=match L with|[]=>none|x::r=>if x=id then some 0 else(place r id).map (·+1)
def AV.ren(r:Nat->Option Nat):Nat->AV->Option AV|_,.p v=>some (.p v)|_,.own id n=>(r id).map (.own · n)|_,.bx id off=>(r id).map (.bx · off)|_,.el id n i off=>(r id).map (.el · n i off)|_,.mp id=>(r id).map .mp|_,.nov=>some .nov|_,.any=>some .any|0,_=>none|d+1,.agg cs=>(mapO (AV.ren r d) cs).map .agg|d+1,.tup cs=>(mapO (AV.ren r d) cs).map .tup|d+1,.clo f cs=>(mapO (AV.ren r d) cs).map (.clo f)
def Blk.ren(r:Nat->Option Nat):Blk->Option Blk|.box cs=>(mapO (AV.ren r 3) cs).map .box|.row f sz xs=>some (.row f sz xs)|.dead=>some .dead
def Heap.pick(H:Heap)(L:List Nat):Option Heap:=mapO (λid=>(H[id]?).bind (Blk.ren (place L))) L
def dz(H:Heap):List Nat->List Blk->Heap|id::L,b::bs=>dz (H.set id b) L bs|_,_=>H
def qa:Blk->Blk|.row _ sz xs=>.row true sz xs|_=>.dead
def kill(H:Heap):List Nat->Heap|[]=>H|id::L=>kill (match H[id]? with|some b=>H.set id (qa b)|none=>H) L
def gg(H:Heap)(vs:List AV):Option (List PV×Heap):=let L:=fP H 64 (vs.flatMap AV.refs) [];(mapO (AV.ren (place L) 3) vs).bind λvs'=>(Heap.pick H L).bind λHL=>(mapO (aI HL 4) vs').map λps=>(ps,kill H L)
def tidy(k:Nat)(r:List AV×Heap):Option (List AV×Heap):=let L:=fP r.2 64 (r.1.flatMap AV.refs++(r.2.take k).flatMap Blk.refs) (List.range k);(mapO (AV.ren (place L) 3) r.1).bind λrs=>(Heap.pick r.2 L).map λB=>(rs,B)
def backTo(H:Heap)(L:List Nat)(id:Nat):Option Nat:=if id<L.length then L[id]? else some (H.length+(id-L.length))
def vS(H:Heap)(L:List Nat)(r:List AV×Heap):Option (List AV×Heap):=(mapO (AV.ren (backTo H L) 3) r.1).bind λrs=>(mapO (Blk.ren (backTo H L)) r.2).map λbs=>(rs,dz H L bs++bs.drop L.length)
section


variable(Γ:Ctx)(call:Nat->List AV->Heap->Option (List AV×Heap))(σ:Nat->AV)(H:Heap)
def Arg.ev:Arg->AV
 |.v t=>σ t|.c x=>.p x|.g n=>match Γ.gl n with|some cs=>.p (.ptr cs)|none=>.any
 |.f n=>.p (.clo n [])
def asInt:AV->Option Int|.p (.int _ n)=>some n|_=>none
def jm:Bool->AV->Option Nat|true,.p (.str s)=>some s.length|false,.p (.sl _ _ xs)=>some xs.length|false,.own id n=>(rowOf H id n).map λ_=>n|_,_=>none
def kj(sz:Nat)(ag:Bool):AV->Option AV|.p (.ptr cells)=>qb sz ag cells|.bx id off=>(dj H id).bind λcs=>takeA sz ag (cs.drop off)|.el id n i off=>(rowOf H id n).bind λr=>r.2[i]?.bind λx=>qb sz ag (x.cells.drop off)|_=>none
def iaddrA(sz:Nat)(x i:AV):Option AV:=match x,i with|.p (.sl _ sz' xs),.p (.int _ i)=>if sz=sz'/\0<=i then(xs[i.toNat]?).map λx=>.p (.ptr x.cells)else none|.own id n,.p (.int _ i)=>(rowOf H id n).bind λr=>if sz=r.1/\0<=i/\i<n then some (.el id n i.toNat 0)else none|_,_=>none
def bound(n:Nat)(d:Nat):Option AV->Option Nat|none=>some d|some (.p (.int _ i))=>if 0<=i/\i<=n then some i.toNat else none|_=>none
def jb(x:AV)(lo hi:Option AV):Option AV:=match x with|.p (.str s)=>(bound s.length s.length hi).bind λh=>(bound h 0 lo).map λl=>.p (.str ((s.take h).drop l))|_=>none
def gN(sz:Nat)(x:AV)(lo hi:Option AV):Option AV:=match x with|.p (.sl k sz' xs)=>if sz=sz' then(bound xs.length xs.length hi).bind λh=>(bound h 0 lo).map λl=>.p (.sl k.cut sz ((xs.take h).drop l))else none|_=>none
def lz(zero:List AV):List (Nat×Nat×AV)->Option (List AV)|[]=>some zero|(off,sz,v)::r=>if v.ok=true/\v.cells.length=sz/\off+sz<=zero.length then lz (zero.take off++v.cells++zero.drop (off+sz)) r else none
def chunks(sz:Nat)(ag:Bool):Nat->List PV->List PV|0,_=>[]|n+1,cs=>(if ag then .agg (cs.take sz)else cs.headD .nilp)::chunks sz ag n (cs.drop sz)
def minmax(mx:Bool):List AV->Option AV|[.p (.int k x),.p (.int _ y)]=>some (.p (.int k (if mx then(if x<y then y else x)else(if y<x then y else x))))|[.p (.int k x),.p (.int _ y),.p (.int _ z)]=>let m:=if mx then(if x<y then y else x)else(if y<x then y else x);some (.p (.int k (if mx then(if m<z then z else m)else(if z<m then z else m))))|_=>none
def bytesIn:List PV->Option (List UInt8)|[]=>some []|.int .u8 n::r=>(bytesIn r).map (UInt8.ofNat n.toNat::·)|_=>none
def callee:AV->Option (Nat×List AV)|.p (.clo f cs)=>some (f,cs.map .p)|.clo f cs=>some (f,cs)|_=>none
def vv(f:AV)(args:List AV):Option (List PV):=(callee f).bind λfc=>(mapO (aI H 4) (args++fc.2)).bind λps=>(call fc.1 (ps.map .p) []).bind λr=>mapO (aI r.2 4) r.1
def frC(H:Heap):AV->Bool
 |.p v=>Ud v|.own id n=>match H[id]? with|some (.row false _ xs)=>xs.length==n&&xs.all flat|_=>false
 |_=>false
def frR(H:Heap):AV->Bool|.p v=>flat v|.agg cs=>cs.all (frC H)|v=>frC H v
def uA(f:AV)(args:List AV):Option (List PV):=(callee f).bind λfc=>(mapO (aI H 4) (args++fc.2)).bind λps=>(call fc.1 (ps.map .p) []).bind λr=>ifB (r.1.all (frR r.2)) (mapO (aI r.2 4) r.1)
def ES(c a b:AV):Option AV:=match c with|.p (.bool t)=>some (if t=true then a else b)|_=>none
def elOk(id n i:Nat):Bool:=match rowOf H id n with|some _=>decide (i<n)|none=>false
def lc:AV->Option AV|.p (.ptr cs)=>some (.p (.ptr cs))|.bx id off=>some (.bx id off)|.el id n i off=>ifB (elOk H id n i) (some (.el id n i off))|.p (.clo f cs)=>some (.p (.clo f cs))|.clo f cs=>some (.clo f cs)|_=>none
def unA(op:UnOp):AV->Option AV|.p v=>(unPV op v).map .p|_=>none
def Tb(k:IntKind):AV->Option AV|.p (.int _ n)=>some (.p (.int k (k.wrap n)))|_=>none
def sameA:AV->Option AV|.p (.str s)=>some (.p (.str s))|_=>none
def idxA:AV->AV->Option AV|.p (.str s),.p (.int _ i)=>if 0<=i then(s[i.toNat]?).map λb=>.p (.int .u8 b.toNat)else none|_,_=>none
def aidxA(sz:Nat)(ag:Bool)(n:Nat):AV->AV->Option AV|.p (.agg cs),.p (.int _ i)=>if 0<=i/\i<n/\cs.length=n*sz then qb sz ag (cs.drop (i.toNat*sz))else none|_,_=>none
def fldA(off sz:Nat)(ag:Bool):AV->Option AV|.p (.agg cs)=>qb sz ag (cs.drop off)|.agg cs=>takeA sz ag (cs.drop off)|_=>none
def qg(off:Nat):AV->Option AV|.p (.ptr cs)=>if off<cs.length then some (.p (.ptr (cs.drop off)))else none|.bx id o=>some (.bx id (o+off))|.el id n i o=>ifB (elOk H id n i) (some (.el id n i (o+off)))|_=>none
def oH(sz n:Nat):AV->AV->Option AV|.p (.ptr cs),.p (.int _ i)=>if 0<=i/\i<n/\i.toNat*sz<cs.length then some (.p (.ptr (cs.drop (i.toNat*sz))))else none|.bx id o,.p (.int _ i)=>if 0<=i/\i<n then some (.bx id (o+i.toNat*sz))else none|_,_=>none
def xi(sz:Nat)(ag:Bool)(n:Nat)(cs:Option (List AV)):Option AV:=cs.bind λcs=>(iT cs).bind λps=>if ps.length=n*sz then some (.p (.sl .tight sz (chunks sz ag n ps)))else none
def appqA(sz:Nat):AV->AV->Option AV|.p (.sl k sz' []),.p (.sl k2 sz2 ys)=>if(k=.nil\/(k=.tight/\sz'=sz))/\(sz=sz2\/k2=.nil)/\ys.length<=lim then some (.p (.sl .any sz ys))else none|_,_=>none
def mktA(sz:Nat)(ag:Bool)(zero:List PV):AV->AV->Option AV|.p (.int _ n),.p (.int _ c)=>if 0<=n/\n=c/\n<=lim/\0<n then some (.p (.sl .any sz (List.replicate n.toNat (if ag then .agg zero else zero.headD .nilp))))else none|_,_=>none
def mres(comma:Bool)(zero:AV):Option AV->AV|some v=>if comma then .tup [v,.p (.bool true)]else v|none=>if comma then .tup [zero,.p (.bool false)]else zero
def Ni(kd:KD)(zero:List PV)(comma:Bool):AV->AV->Option AV|.p .nilmap,.p k=>ifB (rV kd k) (some (mres comma (mkZ zero) none))|.mp id,.p k=>ifB (rV kd k) ((mapOf H id).bind λes=>(pZ k es).map (mres comma (mkZ zero)))|_,_=>none
def Pf:AV->Option AV|.p .nilmap=>some (.p (.int .i64 0))|.mp id=>(mapOf H id).map λes=>.p (.int .i64 (es.length:Nat))|_=>none
def sI(neg:Bool):AV->AV->Option AV|.own id n,.p (.sl .nil _ _)=>(rowOf H id n).bind λ_=>if 0<n then some (.p (.bool neg))else none|x,y=>eqkA 4 neg x y
def Nr(sz:Nat)(ag:Bool)(n:Nat)(cs:Option (List AV)):Option (AV×Heap):=cs.bind λcs=>(iT cs).bind λps=>if ps.length=n*sz/\n<=lim then some (.own H.length n,H++[.row false sz (chunks sz ag n ps)])else none
def tD(v:AV):Option (AV×Heap):=(gg H [v]).bind λr=>r.1.head?.map λp=>(.p p,r.2)
def Er(kd:KD)(x k v:AV):Option Heap:=match x,k with|.mp id,.p k=>ifB (rV kd k&&v.ok) ((mapOf H id).bind λes=>(mput k v es).map λes'=>H.set id (.box (ak es')))|_,_=>none
def Cy(ks:List Nat)(k:List PV)(v:AV):List (PV×AV)->Option (List (PV×AV))
 |[]=>some [(.agg k,v)]|(.agg k',v')::r=>match aN ks k k' with|some true=>some ((.agg k,v)::r)|some false=>(Cy ks k v r).map ((.agg k',v')::·)|none=>none
 |_=>none
def Cb(ks:List Nat)(x k v:AV):Option Heap:=match x,k with|.mp id,.p (.agg k)=>ifB (aN ks k k==some true&&v.ok) ((mapOf H id).bind λes=>(Cy ks k v es).map λes'=>H.set id (.box (ak es')))|_,_=>none
def mdelA(kd:KD)(x k:AV):Option Heap:=match x,k with|.mp id,.p k=>ifB (rV kd k) ((mapOf H id).bind λes=>(Ou k es).map λes'=>H.set id (.box (ak es')))|_,_=>none
def extA(i:Nat):AV->Option AV|.tup vs=>vs[i]?|_=>none
def UN(f:Nat)(cs:List AV):AV:=match iT cs with|some ps=>.p (.clo f ps)|none=>.clo f cs
def sf:AV->Option AV|.p (.int _ n)=>some (.p (.str (Go.Utf8.encode n).data.toList))|_=>none
def zw:AV->Option AV|.p (.sl _ sz xs)=>if sz=1 then(bytesIn xs).map λs=>.p (.str s)else none|.own id n=>(rowOf H id n).bind λr=>if r.1=1 then(bytesIn r.2).map λs=>.p (.str s)else none|_=>none
def km(sz:Nat)(x:AV)(lo hi:Option AV):Option AV:=match x with|.own id n=>(rowOf H id n).bind λr=>if sz=r.1 then(bound n n hi).bind λh=>(bound h 0 lo).bind λl=>if l<n then some (.el id n (n+l) h)else none else none|_=>none
def zb(sz:Nat)(ag:Bool):AV->AV->Option AV|.bx id off,.bx id' _=>if id=id' then kj H sz ag (.bx id off)else none|_,_=>none
def heldC:List AV->AV->Bool|[.own i n],.own j m=>i==j&&n==m|_,.p (.sl _ _ _)=>true|_,_=>false
def MZ(x:AV):AV->Option AV|.bx id' _=>(dj H id').bind λcs=>ifB (heldC cs x) ((jm H false x).map λ(n:Nat)=>.p (.int .i64 (n:Int)))|_=>none
def evQ:QOp->Option AV|.bad=>none|.mov x=>some (x.ev Γ σ)|.pick c a b=>ES (c.ev Γ σ) (a.ev Γ σ) (b.ev Γ σ)|.nilchk x=>lc H (x.ev Γ σ)|.bin op x y=>cb op (x.ev Γ σ) (y.ev Γ σ)|.eqs ks neg x y=>eqsA ks neg (x.ev Γ σ) (y.ev Γ σ)|.eqk kd neg x y=>eqkA kd neg (x.ev Γ σ) (y.ev Γ σ)|.un op x=>unA op (x.ev Γ σ)|.conv k x=>Tb k (x.ev Γ σ)|.same x=>sameA (x.ev Γ σ)|.strOf x=>zw H (x.ev Γ σ)|.runeStr x=>sf (x.ev Γ σ)|.len s x=>(jm H s (x.ev Γ σ)).map λ(n:Nat)=>.p (.int .i64 (n:Int))|.idx x i=>idxA (x.ev Γ σ) (i.ev Γ σ)|.aidx sz ag n x i=>aidxA sz ag n (x.ev Γ σ) (i.ev Γ σ)|.fld off sz ag x=>fldA off sz ag (x.ev Γ σ)|.faddr off x=>qg H off (x.ev Γ σ)|.iaddr sz x i=>iaddrA H sz (x.ev Γ σ) (i.ev Γ σ)|.iaddrA sz n x i=>oH sz n (x.ev Γ σ) (i.ev Γ σ)|.load sz ag x=>kj H sz ag (x.ev Γ σ)|.sliceS x lo hi=>jb (x.ev Γ σ) (lo.map (Arg.ev Γ σ)) (hi.map (Arg.ev Γ σ))|.slice sz x lo hi=>gN sz (x.ev Γ σ) (lo.map (Arg.ev Γ σ)) (hi.map (Arg.ev Γ σ))|.build zero parts=>(lz (zero.map .p) (parts.map λq=>(q.off,q.sz,q.arg.ev Γ σ))).map mkAgg|.bslice sz ag n zero parts=>xi sz ag n (lz (zero.map .p) (parts.map λq=>(q.off,q.sz,q.arg.ev Γ σ)))|.ext x i=>extA i (x.ev Γ σ)|.appq sz x y=>appqA sz (x.ev Γ σ) (y.ev Γ σ)|.mget kd zero comma x k=>Ni H kd zero comma (x.ev Γ σ) (k.ev Γ σ)|.mlen x=>Pf H (x.ev Γ σ)|.isnil neg x y=>sI H neg (x.ev Γ σ) (y.ev Γ σ)|.wslice sz x lo hi=>km H sz (x.ev Γ σ) (lo.map (Arg.ev Γ σ)) (hi.map (Arg.ev Γ σ))|.loadk sz ag x k=>zb H sz ag (x.ev Γ σ) (k.ev Γ σ)|.lenk x k=>MZ H (x.ev Γ σ) (k.ev Γ σ)|.minmax mx xs=>minmax mx (xs.map (Arg.ev Γ σ))|.clos f caps=>ifB ((caps.map (Arg.ev Γ σ)).all AV.one) (some (UN f (caps.map (Arg.ev Γ σ))))|.callr f args=>(uA call H (f.ev Γ σ) (args.map (Arg.ev Γ σ))).map λrs=>results (rs.map .p)|.mkt sz ag zero n c=>mktA sz ag zero (n.ev Γ σ) (c.ev Γ σ)|.call f args=>let aX:=args.map (Arg.ev Γ σ);(vv call H (f.ev Γ σ) aX).bind λrs=>ifB (allP aX&&(f.ev Γ σ).isP||rs.all flat) (some (results (rs.map .p)))
def Al(off sz:Nat)(ps:List PV):PV->PV|.agg cs=>.agg (cs.take off++ps++cs.drop (off+sz))|_=>ps.headD .nilp
def oy(sz:Nat)(x v:AV):Option Heap:=match x with
 |.bx id off=>(dj H id).bind λcs=>if v.ok=true/\v.cells.length=sz/\off+sz<=cs.length then some (H.set id (.box (cs.take off++v.cells++cs.drop (off+sz))))else none|.el id n i off=>match H[id]? with|some (.row false sz' xs)=>if xs.length=n then(xs[i]?).bind λx=>(iT v.cells).bind λps=>if v.ok=true/\0<sz/\ps.length=sz/\off+sz<=x.cells.length then some (H.set id (.row false sz' (xs.set i (Al off sz ps x))))else none else none|_=>none
 |_=>none
def elemsOf(sz:Nat):AV->Option (List PV)|.p (.sl k sz' xs)=>if sz=sz'\/k=.nil then some xs else none|.own id n=>(rowOf H id n).bind λr=>if sz=r.1 then some r.2 else none|_=>none
def cH(sz:Nat)(x:AV)(ys:List PV):Option (AV×Heap):=match x with
  |.own id n=>match H[id]? with|some (.row false sz' xs)=>if xs.length=n/\sz'=sz/\(xs++ys).length<=lim then some (.own id (xs++ys).length,H.set id (.row false sz (xs++ys)))else none|_=>none
  |.p (.sl k sz' xs)=>if(k=.nil\/(k=.tight/\sz'=sz))/\(xs++ys).length<=lim then(match xs,ys with|[],ys=>some (.own H.length ys.length,H++[.row false sz ys])|x::xs,[]=>some (.p (.sl k sz' (x::xs)),H)|x::xs,y::ys=>some (.own H.length (x::xs++y::ys).length,H++[.row false sz (x::xs++y::ys)]))else none|_=>none
def ji(xs:List PV)(l:Nat)(cs:List PV):List PV:=xs.take l++cs++xs.drop (l+cs.length)
def kx(sz:Nat):AV->Option (List PV)|.el id n i h=>if n<=i/\i-n<n/\i-n<=h/\h<=n then(rowOf H id n).bind λr=>if sz=r.1 then some ((r.2.take h).drop (i-n))else none else none|y=>elemsOf H sz y
def AO(f:AV)(args:List AV):Option (List AV×Heap):=(callee f).bind λfc=>let aX:=args++fc.2;let L:=fP H 64 (aX.flatMap AV.refs) [];ifB (L.isEmpty||ir Γ L.length fc.1) ((mapO (AV.ren (place L) 3) aX).bind λas'=>(Heap.pick H L).bind λHL=>(call fc.1 as' HL).bind λr=>(tidy L.length r).bind λr'=>vS H L r')
def wP(f:AV)(args:List AV):Option (List AV×Heap):=(callee f).bind λfc=>ifB (aw Γ fc.1) (call fc.1 (args++fc.2) H)
def rB(H:Heap)(ks:List AV):Bool:=ks.all λk=>match k with|.bx id _=>(match H[id]? with|some (.box _)=>true|_=>false)|_=>false
def rowLen(H:Heap)(i n:Nat):Bool:=match H[i]? with|some (.row _ _ xs)=>xs.length==n|_=>false
def TA:List PV->Option (List (List UInt8))|[]=>some []|.str s::r=>(TA r).map (s::·)|_=>none
mutual
def eqP:PV->PV->Bool|.int k n,.int k' n'=>decide (k=k')&&n==n'|.bool a,.bool b=>a==b|.str a,.str b=>a==b|.nilp,.nilp=>true|.nilfn,.nilfn=>true|.nilmap,.nilmap=>true|.clo f xs,.clo g ys=>f==g&&eqPs xs ys|.sl k sz xs,.sl k' sz' ys=>decide (k=k')&&sz==sz'&&eqPs xs ys|.ptr xs,.ptr ys=>eqPs xs ys|.agg xs,.agg ys=>eqPs xs ys|_,_=>false
def eqPs:List PV->List PV->Bool|[],[]=>true|a::r,b::q=>eqP a b&&eqPs r q|_,_=>false
end
mutual
def eqA:AV->AV->Bool|.p a,.p b=>eqP a b|.own i n,.own j m=>i==j&&n==m|.bx i o,.bx j q=>i==j&&o==q|.el i n a o,.el j m b q=>i==j&&n==m&&a==b&&o==q|.mp i,.mp j=>i==j|.agg xs,.agg ys=>eqAs xs ys|.tup xs,.tup ys=>eqAs xs ys|.clo f xs,.clo g ys=>f==g&&eqAs xs ys|.nov,.nov=>true|.any,.any=>true|_,_=>false
def eqAs:List AV->List AV->Bool|[],[]=>true|a::r,b::q=>eqA a b&&eqAs r q|_,_=>false
end
def eqB:Blk->Blk->Bool|.box a,.box b=>eqAs a b|.row f s x,.row g t y=>f==g&&s==t&&eqPs x y|.dead,.dead=>true|_,_=>false
def preB:Heap->Heap->Bool|[],_=>true|b::r,c::q=>eqB b c&&preB r q|_::_,[]=>false
def KI:List AV->Bool|[.own _ _]=>true|_=>false
def jl(H H':Heap)(id:Nat):Bool:=match H[id]?,H'[id]? with
 |some (.box [.own i n]),some (.box [.own j m])=>i==j&&n==m&&rowLen H i n&&rowLen H' i n|some (.box [.p (.sl .nil a [])]),some (.box [.p (.sl .nil b [])])=>a==b|some (.box [.p (.sl .any a xs)]),some (.box [.p (.sl .any b ys)])=>a==b&&(match TA xs,TA ys with|some l,some m=>l==m|_,_=>false)|some (.box cs),some (.box ds)=>eqAs cs ds&&!KI cs|_,_=>false
def keepW(H H':Heap)(ks:List AV):Bool:=ks.all λk=>match k with|.bx id _=>jl H H' id|_=>false
def Dh(f:AV)(args:List AV):Option (List AV×Heap):=(wP Γ call H f args).bind λr=>ifB (preB H r.2) (some r)
def qW(f:AV)(args ks:List AV):Option (List AV×Heap):=(wP Γ call H f args).bind λr=>ifB (keepW H r.2 ks) (some r)
def Ui(f:AV)(args:List AV):Option (List PV×Heap):=(callee f).bind λfc=>(gg H (args++fc.2)).bind λq=>(call fc.1 (q.1.map .p) []).bind λr=>(mapO (aI r.2 4) r.1).map λrs=>(rs,q.2)
def vw(L:List Nat)(ks:List AV):Bool:=ks.all λk=>match k with|.bx id _=>decide (id<H.length)&&!L.contains id|_=>true
def FC(f:AV)(args ks:List AV):Option (List AV×Heap):=(callee f).bind λfc=>ifB (vw H (fP H 64 ((args++fc.2).flatMap AV.refs) []) ks) (AO Γ call H f args)
def ui(sz:Nat)(x v:AV)(ks:List AV):Option Heap:=ifB (vw H (match x with|.bx id _=>[id]|.el id _ _ _=>[id]|_=>[]) ks) (oy H sz x v)
def popA(sz:Nat):AV->AV->Option (AV×Heap)
 |.own id n,.p (.int _ h)=>match H[id]? with|some (.row false sz' xs)=>if xs.length=n/\sz'=sz/\0<=h/\h<=n then some (.own H.length h.toNat,H.set id .dead++[.row false sz (xs.take h.toNat)])else none|_=>none
 |_,_=>none
def pX(sz:Nat)(ag:Bool)(n:Nat)(cs:Option (List AV)):Option (AV×Heap):=cs.bind λcs=>(gg H cs).bind λq=>ifB (q.1.length==n*sz) (some (.p (.sl .tight sz (chunks sz ag n q.1)),q.2))
def bslkA(sz:Nat)(ag:Bool)(n:Nat)(cs:Option (List AV))(ks:List AV):Option (AV×Heap):=cs.bind λl=>ifB (vw H (fP H 64 (l.flatMap AV.refs) []) ks) (pX H sz ag n (some l))
def fboxA(v:AV):Option (AV×Heap):=(gg H v.cells).bind λq=>ifB (v.ok&&!q.1.isEmpty) (some (.p (.ptr q.1),q.2))
def lV(sz:Nat)(ag:Bool)(zero:List PV):AV->AV->Option (AV×Heap)|.p (.int _ n),.p (.int _ c)=>if 0<=n/\n=c/\n<=lim then some (.own H.length n.toNat,H++[.row false sz (List.replicate n.toNat (if ag then .agg zero else zero.headD .nilp))])else if n=0/\0<=c/\c<=lim then some (.own H.length 0,H++[.row false sz []])else none|_,_=>none
def boxA(v:AV):Option (AV×Heap):=match v.ok with|true=>some (.bx H.length 0,H++[.box v.cells])|false=>none
def vP(x:AV):AV->Option (AV×Heap)
 |.p (.str s)=>match x with|.own id n=>cH H 1 (.own id n) (s.map λb=>.int .u8 b.toNat)|.p (.sl .nil sz [])=>cH H 1 (.p (.sl .nil sz [])) (s.map λb=>.int .u8 b.toNat)|_=>none
 |_=>none
def sP:AV->Option (AV×Heap)|.p (.str s)=>if s.length<=lim then some (.own H.length s.length,H++[.row false 1 (s.map λb=>.int .u8 b.toNat)])else none|_=>none
def Hu(sz:Nat)(x:AV)(ys:List PV):Option (AV×Heap):=match x with
 |.own id n=>match H[id]? with|some (.row false sz' xs)=>if xs.length=n/\sz'=sz/\0<n then some (.p (.int .i64 (min ys.length n:Nat)),H.set id (.row false sz (ji xs 0 (ys.take n))))else none|_=>none
 |.el id n i h=>if n<=i/\i-n<n/\i-n<=h/\h<=n then match H[id]? with|some (.row false sz' xs)=>if xs.length=n/\sz'=sz then some (.p (.int .i64 (min ys.length (h-(i-n)):Nat)),H.set id (.row false sz (ji xs (i-n) (ys.take (h-(i-n))))))else none|_=>none else none|_=>none
def qM(sz:Nat)(x:AV)(lo hi:Option AV):Option (AV×Heap):=match x with|.own id n=>(rowOf H id n).bind λr=>(gN sz (.p (.sl .any r.1 r.2)) lo hi).map λv=>(v,freeze H [.own id n])|x=>(gN sz x lo hi).map λv=>(v,H)
def FF:AV->Option (AV×Heap)|.p (.str s)=>some (.bx H.length 0,H++[.box (bX s 0)])|_=>none
def jc(s:List UInt8)(i:Nat):Nat×Nat:=Go.Utf8.decode ⟨s.toArray⟩ i
def NX:AV->Option (AV×Heap)
 |.bx id 0=>match H[id]? with|some (.box [.nov,.p (.str s),.p (.int .i64 pos)])=>if pos<s.length then some (.tup [.p (.bool true),.p (.int .i64 pos),.p (.int .i32 (jc s pos.toNat).1)],H.set id (.box (bX s (pos.toNat+(jc s pos.toNat).2))))else some (.tup [.p (.bool false)],H)|_=>none
 |_=>none
def evX:XOp->Option (AV×Heap)|.alloc zero=>some (.bx H.length 0,H++[.box (zero.map .p)])|.box x=>boxA H (x.ev Γ σ)|.store sz x v=>(oy H sz (x.ev Γ σ) (v.ev Γ σ)).map λH'=>(.nov,H')|.mkslice sz ag zero n c=>lV H sz ag zero (n.ev Γ σ) (c.ev Γ σ)|.newrow sz=>some (.own H.length 0,H++[.row false sz []])|.append sz x y=>(elemsOf H sz (y.ev Γ σ)).bind λys=>cH H sz (x.ev Γ σ) ys|.appendS x y=>vP H (x.ev Γ σ) (y.ev Γ σ)|.copy sz x y=>(kx H sz (y.ev Γ σ)).bind λys=>Hu H sz (x.ev Γ σ) ys|.bytesOf x=>sP H (x.ev Γ σ)|.range x=>FF H (x.ev Γ σ)|.next x=>NX H (x.ev Γ σ)|.slicef sz x lo hi=>qM H sz (x.ev Γ σ) (lo.map (Arg.ev Γ σ)) (hi.map (Arg.ev Γ σ))|.callf f args=>let aX:=args.map (Arg.ev Γ σ);ifB (pW (aX.flatMap AV.cells)&&(f.ev Γ σ).isP) ((vv call H (f.ev Γ σ) aX).map λrs=>(results (rs.map .p),freeze H (aX.flatMap AV.cells)))|.calls f args=>(AO Γ call H (f.ev Γ σ) (args.map (Arg.ev Γ σ))).map λr=>(results r.1,r.2)|.pureq q=>(evQ Γ call σ [] q).map λv=>(v,H)|.callz f args=>(Ui call H (f.ev Γ σ) (args.map (Arg.ev Γ σ))).map λr=>(results (r.1.map .p),r.2)|.fbox x=>fboxA H (x.ev Γ σ)|.treeq q=>(evQ Γ call σ H q).bind λv=>tD H v|.appt sz x y=>((elemsOf H sz (y.ev Γ σ)).bind λys=>cH H sz (x.ev Γ σ) ys).bind λr=>tD r.2 r.1|.appk sz x y ks=>ifB (rB H (ks.map (Arg.ev Γ σ))) ((elemsOf H sz (y.ev Γ σ)).bind λys=>cH H sz (x.ev Γ σ) ys)|.brow sz ag n zero parts=>Nr H sz ag n (lz (zero.map .p) (parts.map λq=>(q.off,q.sz,q.arg.ev Γ σ)))|.mkmap=>some (.mp H.length,H++[.box (ak [])])|.mset kd x k v=>(Er H kd (x.ev Γ σ) (k.ev Γ σ) (v.ev Γ σ)).map λH'=>(.nov,H')|.msets ks x k v=>(Cb H ks (x.ev Γ σ) (k.ev Γ σ) (v.ev Γ σ)).map λH'=>(.nov,H')|.mdel kd x k=>(mdelA H kd (x.ev Γ σ) (k.ev Γ σ)).map λH1=>(.any,H1)|.bslk sz ag n zero parts ks=>bslkA H sz ag n (lz (zero.map .p) (parts.map λq=>(q.off,q.sz,q.arg.ev Γ σ))) (ks.map (Arg.ev Γ σ))|.popf sz x hi=>popA H sz (x.ev Γ σ) (hi.ev Γ σ)|.callw f args=>(wP Γ call H (f.ev Γ σ) (args.map (Arg.ev Γ σ))).map λr=>(results r.1,r.2)|.callwr f args=>(Dh Γ call H (f.ev Γ σ) (args.map (Arg.ev Γ σ))).map λr=>(results r.1,r.2)|.callwk f args ks=>(qW Γ call H (f.ev Γ σ) (args.map (Arg.ev Γ σ)) (ks.map (Arg.ev Γ σ))).map λr=>(results r.1,r.2)|.callk f args ks=>(FC Γ call H (f.ev Γ σ) (args.map (Arg.ev Γ σ)) (ks.map (Arg.ev Γ σ))).map λr=>(results r.1,r.2)|.storek sz x v ks=>(ui H sz (x.ev Γ σ) (v.ev Γ σ) (ks.map (Arg.ev Γ σ))).map λH'=>(.nov,H')|.bslicef sz ag n zero parts=>pX H sz ag n (lz (zero.map .p) (parts.map λq=>(q.off,q.sz,q.arg.ev Γ σ)))
def wanted:Option (Nat×Bool)->Option Bool|none=>some true|some (t,b)=>match σ t with|.p (.bool c)=>some (c==b)|.nov=>some false|_=>none
end
def put(env:Env)(dst:Option Nat)(v:AV):Env:=match dst with|some t=>(t,v)::env|none=>env
def iA(Γ:Ctx)(call:Nat->List AV->Heap->Option (List AV×Heap)):List St->Env->Heap->Option (Env×Heap)|[],env,H=>some (env,H)|s::r,env,H=>match wanted (look env) s.g with|none=>none|some false=>iA Γ call r (put env s.dst .nov) H|some true=>match s.op with
   |.inl q=>match evQ Γ call (look env) H q with|some v=>iA Γ call r (put env s.dst v) H|none=>none
   |.inr x=>match evX Γ call (look env) H x with|some (v,H')=>iA Γ call r (put env s.dst v) H'|none=>none
inductive Ex where|nrm|ex(id:Nat)|ret deriving DecidableEq
def prune(live:List Nat)(env:Env):Env:=live.map λt=>(t,look env t)
def vd(r:Nat->Option Nat):Env->Option Env:=mapO λx=>(AV.ren r 3 x.2).map λv=>(x.1,v)
def norm(live:List Nat)(gc:Option Nat)(env:Env)(H:Heap):Option (Env×Heap):=let e:=prune live env;match gc with
 |some j=>let L:=fP H 64 ((e.flatMap λx=>x.2.refs)++(H.take j).flatMap Blk.refs) (List.range j);match vd (place L) e,Heap.pick H L with|some e',some H'=>some (e',H')|_,_=>none
 |none=>some (e,H)
def ma(args:List AV):Env:=args.zipIdx.map λx=>(x.2,x.1)
def RV.get(env:Env)(H:Heap):RV->Option AV|.slot t=>some (look env t)|.cell t sz ag=>kj H sz ag (look env t)
abbrev Out:=Ex×Env×Heap
def runI(Γ:Ctx)(run:Code->Env->Heap->Option Out)(c:Nat)(aX:List PV):Option Int:=match Γ.fn c with
 |some (.code fn)=>if(aX.map AV.p).length=fn.np then match run fn.body (ma (aX.map .p)) []with
   |some (.ex _,_,_)=>none|some (_,env,H')=>match mapO (RV.get env H') fn.results with|some [.p (.int .i64 n)]=>some n|_=>none
   |none=>none else none|_=>none
def DT(Γ:Ctx)(run:Code->Env->Heap->Option Out)(c:Nat):List (List PV×Int)->Bool|[]=>true|p::r=>(runI Γ run c p.1==some p.2)&&DT Γ run c r
def OB(Γ:Ctx)(run:Code->Env->Heap->Option Out)(f:Nat)(args:List AV)(H:Heap):Option (List AV×Heap):=match Γ.fn f with
 |some (.prim g)=>match iT args with
  |some ps=>match g ps with|some rs=>some (rs.map .p,H)|none=>none
  |none=>none
 |some (.code fn)=>if args.length=fn.np then match run fn.body (ma args) H with
   |some (.ex _,_,_)=>none|some (_,env,H')=>match mapO (RV.get env H') fn.results with|some rs=>some (rs,H')|none=>none
   |none=>none else none|_=>none
def callOf(Γ:Ctx)(run:Code->Env->Heap->Option Out)(f:Nat)(args:List AV)(H:Heap):Option (List AV×Heap):=match Γ.fn f with
 |some (.prim g)=>match iT args with
  |some ps=>match g ps with|some rs=>some (rs.map .p,H)|none=>none
  |none=>none
 |some (.fresh g)=>match iT args with
  |some ps=>match g ps with|some r=>if 0<r.1/\r.2.length<=lim then some ([.own H.length r.2.length],H++[.row false r.1 r.2])else none|none=>none
  |none=>none
 |some (.upd g)=>match args with
  |.own id n::args=>match H[id]? with
   |some (.row false sz xs)=>if xs.length=n then match iT args with
     |some ps=>match g ps sz xs with|some ys=>if ys.length=xs.length then some ([],H.set id (.row false sz ys))else none|none=>none
     |none=>none else none|_=>none
  |_=>none
 |some (.look g)=>match g args H with|some rs=>some (rs.map .p,H)|none=>none
 |some (.lookc c q g)=>match q args H with
  |some ps=>match g args H with|some rs=>if DT Γ run c ps=true then some (rs.map .p,H)else none|none=>none
  |none=>none
 |some (.hi g)=>g.go (OB Γ run) args H|some (.code fn)=>if args.length=fn.np then match run fn.body (ma args) H with
   |some (.ex _,_,_)=>none|some (_,env,H')=>match mapO (RV.get env H') fn.results with|some rs=>some (rs,H')|none=>none
   |none=>none else none|none=>none
def ev(Γ:Ctx):Nat->Code->Env->Heap->Option Out
 |0,_,_,_=>none|_+1,.skip,env,H=>some (.nrm,env,H)|n+1,.ops live l,env,H=>(iA Γ (callOf Γ (ev Γ n)) l env H).map λr=>(.nrm,prune live r.1,r.2)|n+1,.seq a b,env,H=>match ev Γ n a env H with|some (.nrm,env',H')=>ev Γ n b env' H'|r=>r
 |n+1,.cond c a b,env,H=>match c.ev Γ (look env)with|.p (.bool t)=>if t then ev Γ n a env H else ev Γ n b env H|_=>none
 |n+1,.block live id c,env,H=>match ev Γ n c env H with|some (.nrm,env',H')=>some (.nrm,prune live env',H')|some (.ex i,env',H')=>if i=id then some (.nrm,prune live env',H')else some (.ex i,env',H')|r=>r
 |n+1,.loop live gc c,env,H=>match norm live gc env H with|none=>none|some (e,h)=>match ev Γ n c e h with|some (.nrm,env',H')=>ev Γ n (.loop live gc c) env' H'|r=>r
 |_+1,.exit id,env,H=>some (.ex id,env,H)|_+1,.ret,env,H=>some (.ret,env,H)|_+1,.bad,_,_=>none
theorem ifB_some{c:Type}{b:Bool}{x:Option c}{v:c}:ifB b x=some v↔b=true/\x=some v:=by cases b<;>simp[ifB]
theorem BW{c b:rm}(h:nL c b){H f a r}(e:vv c H f a=some r):vv b H f a=some r:=by unfold vv at*;simp only[Option.bind_eq_some_iff]at*;let⟨k,g,ps,i,d,l,j⟩:=e;exact⟨k,g,ps,i,d,h _ _ _ _ l,j⟩
theorem Ip{c b:rm}(h:nL c b){H f a r}(e:uA c H f a=some r):uA b H f a=some r:=by unfold uA at*;simp only[Option.bind_eq_some_iff]at*;let⟨k,g,ps,i,d,l,j⟩:=e;exact⟨k,g,ps,i,d,h _ _ _ _ l,j⟩
theorem wh{Γ:Ctx}{c d:rm}(h:nL c d){σ H q v}(e:evQ Γ c σ H q=some v):evQ Γ d σ H q=some v:=by
 cases q;case call f args=>simp[evQ,Option.bind_eq_some_iff]at*;let⟨rs,a,b⟩:=e;exact⟨rs,BW h a,b⟩
 case callr f args=>simp[evQ,]at*;let⟨rs,a,b⟩:=e;exact⟨rs,Ip h a,b⟩
 all_goals exact e
theorem Bz{Γ:Ctx}{c b:rm}(h:nL c b){H f d r}(e:AO Γ c H f d=some r):AO Γ b H f d=some r:=by unfold AO at*;simp only[Option.bind_eq_some_iff,ifB_some]at*;let⟨l,i,j,a,k,HL,n,o,m,g⟩:=e;exact⟨l,i,j,a,k,HL,n,o,h _ _ _ _ m,g⟩
theorem NR{c b:rm}(h:nL c b){H f a r}(e:Ui c H f a=some r):Ui b H f a=some r:=by unfold Ui at*;simp only[Option.bind_eq_some_iff]at*;let⟨j,k,q,g,l,i,d⟩:=e;exact⟨j,k,q,g,l,h _ _ _ _ i,d⟩
theorem Lr{Γ:Ctx}{c m:rm}(h:nL c m){σ H x v}(e:evX Γ c σ H x=some v):evX Γ m σ H x=some v:=by
 cases x;case callf f args=>simp[evX,ifB_some,]at*;let⟨n,rs,a,b⟩:=e;exact⟨n,rs,BW h a,b⟩
 case calls f args=>simp only[evX,Option.map_eq_some_iff]at*;let⟨r,a,b⟩:=e;exact⟨r,Bz h a,b⟩
 case callz f args=>simp only[evX,Option.map_eq_some_iff]at*;let⟨r,a,b⟩:=e;exact⟨r,NR h a,b⟩
 case callw f args=>simp only[evX,wP,Option.map_eq_some_iff,Option.bind_eq_some_iff,ifB_some]at*;let⟨r,⟨g,d,i,a⟩,b⟩:=e;exact⟨r,⟨g,d,i,h _ _ _ _ a⟩,b⟩
 case callwk f args o=>simp only[evX,qW,wP,Option.map_eq_some_iff,Option.bind_eq_some_iff,ifB_some]at*;let⟨r,⟨k,⟨g,d,i,a⟩,j,l⟩,b⟩:=e;exact⟨r,⟨k,⟨g,d,i,h _ _ _ _ a⟩,j,l⟩,b⟩
 case callwr f args=>simp only[evX,Dh,wP,Option.map_eq_some_iff,Option.bind_eq_some_iff,ifB_some]at*;let⟨r,⟨k,⟨g,d,i,a⟩,j,l⟩,b⟩:=e;exact⟨r,⟨k,⟨g,d,i,h _ _ _ _ a⟩,j,l⟩,b⟩
 case callk f args o=>simp only[evX,FC,Option.map_eq_some_iff,Option.bind_eq_some_iff,ifB_some]at*;let⟨r,⟨g,d,i,a⟩,b⟩:=e;exact⟨r,⟨g,d,i,Bz h a⟩,b⟩
 case pureq q=>simp[evX,Option.map_eq_some_iff]at*;let⟨r,a,b⟩:=e;exact⟨r,wh h a,b⟩
 case treeq q=>simp[evX,Option.bind_eq_some_iff]at*;let⟨r,a,b⟩:=e;exact⟨r,wh h a,b⟩
 all_goals exact e
theorem kH{Γ:Ctx}{c i:rm}(h:nL c i):∀{l a H r},iA Γ c l a H=some r->iA Γ i l a H=some r
 |[],_,_,_,e=>e|s::l,a,H,r,e=>by simp[iA]at*;cases j:wanted (look a) s.g with|none=>grind|some b=>cases b with|false=>simp[j]at e⊢;exact kH h e|true=>simp[j]at e⊢;cases g:s.op with
    |inl q=>simp[g]at e⊢;cases d:evQ Γ c (look a) H q with|none=>grind|some v=>simp[d]at e;simp[wh h d];exact kH h e
    |inr x=>simp[g]at e⊢;cases d:evX Γ c (look a) H x with|none=>grind|some v=>simp[d]at e;simp[Lr h d];exact kH h e
abbrev RunF:=Code->Env->Heap->Option Out
def MW(c c':RunF):Prop:=∀f a H r,c f a H=some r->c' f a H=some r
theorem Rh{Γ:Ctx}{c d:RunF}(h:MW c d){f:Nat}{a:List PV}{n:Int}(e:runI Γ c f a=some n):runI Γ d f a=some n:=by
 unfold runI at*;split at e
 ·split at e
  ·rename_i j;rw[if_pos j];split at e;·grind
   ·rename_i x b k g i;rw[h _ _ _ _ i];grind
   grind
  grind
 grind
theorem Bg{Γ:Ctx}{c a:RunF}(h:MW c a){f:Nat}:∀{ps:List (List PV×Int)},DT Γ c f ps=true->DT Γ a f ps=true
 |[],_=>rfl|p::r,e=>by simp[DT,]at e⊢;exact⟨Rh h e.1,Bg h e.2⟩
theorem Pm{Γ:Ctx}{c b:RunF}(h:MW c b):nL (OB Γ c) (OB Γ b):=by
 intro f a H r e;unfold OB at*;split at e;·grind
 ·split at e
  ·rename_i j;rw[if_pos j];split at e;·grind
   ·rename_i x d k i g;rw[h _ _ _ _ g];grind
   grind
  grind
 grind
theorem wJ{Γ:Ctx}{c d:RunF}(h:MW c d):nL (callOf Γ c) (callOf Γ d):=by intro f a H r e;unfold callOf at*;cases b:Γ.fn f with|none=>grind|some fn=>cases fn with
  |prim g=>grind|fresh g=>grind|upd g=>grind|look g=>grind|hi g=>simp[b]at e⊢;exact g.mono _ _ (Pm h) _ _ _ e|lookc k q g=>
   simp[b]at e⊢;split at e
   ·split at e
    ·split at e;·rename_i j;rw[if_pos (Bg h j)];grind
     grind
    grind
   grind|code fn=>
   simp only[b]at e⊢;split at e;·rename_i l;rw[if_pos l];cases i:c fn.body (ma a) H with|none=>grind|some o=>rw[i]at e;rw[h _ _ _ _ i];grind
   grind
theorem ev_succ{Γ:Ctx}:∀n,MW (ev Γ n) (ev Γ (n+1)):=by intro n;induction n with|zero=>intro c f H r e;simp[ev]at e|succ n g=>intro c f H r e;cases c with
  |skip=>exact e|exit=>exact e|bad=>exact e|ret=>exact e|ops d l=>simp only[ev,Option.map_eq_some_iff]at*;let⟨x,p,s⟩:=e;exact⟨x,kH (wJ g) p,s⟩|seq a b=>rw[ev]at e⊢;cases h:ev Γ n a f H with|none=>grind|some o=>
    rw[g _ _ _ _ h];rw[h]at e;let⟨x,i,u⟩:=o;cases x<;>simp  at e⊢;·exact g _ _ _ _ e
    all_goals grind|cond c a b=>
   rw[ev]at e⊢;split at e
   ·rename_i t w;cases t;·exact g _ _ _ _ e
    ·exact g _ _ _ _ e
   grind|block d v c=>rw[ev]at e⊢;cases h:ev Γ n c f H with|none=>grind|some o=>rw[g _ _ _ _ h];grind
  |loop d m c=>rw[ev]at e⊢;cases q:norm d m f H with|none=>grind|some k=>simp[q]at e⊢;cases h:ev Γ n c k.1 k.2 with|none=>grind|some o=>
     rw[g _ _ _ _ h];rw[h]at e;let⟨x,i,u⟩:=o;cases x<;>simp  at e⊢;·exact g _ _ _ _ e
     all_goals grind
theorem UE{Γ:Ctx}{n m}(h:n<=m):MW (ev Γ n) (ev Γ m):=by induction h with|refl=>exactλ_ _ _ _ e=>e|step _ a=>exactλ_ _ _ _ e=>ev_succ _ _ _ _ _ (a _ _ _ _ e)
theorem js{Γ:Ctx}{n m}(h:n<=m):nL (callOf Γ (ev Γ n)) (callOf Γ (ev Γ m)):=wJ (UE h)
def Wp(Γ:Ctx)(c:Code)(env:Env)(H:Heap)(Q:Out->Prop):Prop:=∃n o,ev Γ n c env H=some o/\Q o
def WpS(Γ:Ctx)(l:List St)(env:Env)(H:Heap)(Q:Env->Heap->Prop):Prop:=∃n r,iA Γ (callOf Γ (ev Γ n)) l env H=some r/\Q r.1 r.2
def RunP(Γ:Ctx)(f:Nat)(args rs:List PV):Prop:=∃n r,callOf Γ (ev Γ n) f (args.map .p) []=some r/\mapO (aI r.2 4) r.1=some rs
theorem Wp.mono{Γ c a H}{Q b:Out->Prop}(h:Wp Γ c a H Q)(e:∀o,Q o->b o):Wp Γ c a H b:=let⟨n,o,d,f⟩:=h;⟨n,o,d,e _ f⟩
theorem Wp_skip{Γ b H Q}:Wp Γ .skip b H Q↔Q (.nrm,b,H):=by
 constructor;·rintro⟨n,o,c,d⟩;cases n with|zero=>simp[ev]at c|succ n=>simp[ev,]at c;grind
 ·exactλh=>⟨1,_,rfl,h⟩
theorem Wp_exit{Γ c b H Q}:Wp Γ (.exit c) b H Q↔Q (.ex c,b,H):=by
 constructor;·rintro⟨n,o,d,e⟩;cases n with|zero=>simp[ev]at d|succ n=>simp[ev,]at d;grind
 ·exactλh=>⟨1,_,rfl,h⟩
theorem Wp_ret{Γ a H Q}:Wp Γ .ret a H Q↔Q (.ret,a,H):=by
 constructor;·rintro⟨n,o,c,d⟩;cases n with|zero=>simp[ev]at c|succ n=>simp[ev,]at c;grind
 ·exactλh=>⟨1,_,rfl,h⟩
theorem Wp_ops{Γ a l c H Q}:Wp Γ (.ops a l) c H Q↔WpS Γ l c H λe h=>Q (.nrm,prune a e,h):=by
 constructor;·rintro⟨n,o,b,f⟩;cases n with|zero=>simp[ev]at b|succ n=>simp only[ev,Option.map_eq_some_iff]at b;obtain⟨r,g,rfl⟩:=b;exact⟨n,r,g,f⟩
 ·rintro⟨n,r,b,f⟩;exact⟨n+1,_,by simp only[ev,b];rfl,f⟩
def Nxt(Q:Out->Prop)(K:Env->Heap->Prop):Out->Prop|(.nrm,e,h)=>K e h|o=>Q o
def aW(live:List Nat)(id:Nat)(Q:Out->Prop):Out->Prop|(.nrm,e,h)=>Q (.nrm,prune live e,h)|(.ex i,e,h)=>if i=id then Q (.nrm,prune live e,h)else Q (.ex i,e,h)|o=>Q o
theorem SL{a b Q e h}:aW a b Q (.nrm,e,h)↔Q (.nrm,prune a e,h):=Iff.rfl
theorem KS{a b Q i e h}:aW a b Q (.ex i,e,h)↔if i=b then Q (.nrm,prune a e,h)else Q (.ex i,e,h):=Iff.rfl
theorem Ux{a b Q e h}:aW a b Q (.ret,e,h)↔Q (.ret,e,h):=Iff.rfl
theorem Wp_seq{Γ a b d H Q}:Wp Γ (.seq a b) d H Q↔Wp Γ a d H (Nxt Q λe h=>Wp Γ b e h Q):=by
 constructor;·rintro⟨n,o,c,g⟩;cases n with|zero=>simp[ev]at c|succ n=>rw[ev]at c;cases i:ev Γ n a d H with|none=>grind|some x=>
    rw[i]at c;let⟨y,e,h⟩:=x;refine⟨n,_,i,?_⟩;cases y<;>simp[Nxt]at c⊢;·exact⟨n,o,c,g⟩
    all_goals grind
 ·rintro⟨n,⟨y,e,h⟩,c,g⟩;cases y;·let⟨m,o,j,k⟩:=g;refine⟨max n m+1,o,?_,k⟩;rw[ev,UE (Nat.le_max_left n m) _ _ _ _ c];exact UE (Nat.le_max_right n m) _ _ _ _ j
  all_goals exact⟨n+1,_,by rw[ev,c],g⟩
theorem Wp_block{Γ a g c b H Q}:Wp Γ (.block a g c) b H Q↔Wp Γ c b H (aW a g Q):=by
 constructor;·rintro⟨n,o,d,j⟩;cases n with|zero=>simp[ev]at d|succ n=>rw[ev]at d;cases k:ev Γ n c b H with|none=>grind|some x=>rw[k]at d;let⟨y,e,h⟩:=x;refine⟨n,_,k,?_⟩;cases y<;>simp[aW]at d⊢;all_goals grind
 ·rintro⟨n,⟨y,e,h⟩,d,j⟩;cases y;case ex i=>simp[aW]at j;refine⟨n+1,if i=g then(.nrm,prune a e,h)else(.ex i,e,h),by rw[ev,d];grind,?_⟩;grind
  all_goals exact⟨n+1,_,by rw[ev,d],j⟩
def condP(v:AV)(A B:Prop):Prop:=match v with|.p (.bool t)=>if t=true then A else B|_=>False
theorem Wp_cond{Γ x a b c H Q}:Wp Γ (.cond x a b) c H Q↔condP (x.ev Γ (look c)) (Wp Γ a c H Q) (Wp Γ b c H Q):=by
 constructor;·rintro⟨n,o,d,e⟩;cases n with|zero=>simp[ev]at d|succ n=>
   rw[ev]at d;split at d
   ·rename_i t g;rw[g];cases t;·exact⟨n,o,d,e⟩
    ·exact⟨n,o,d,e⟩
   grind
 ·intro h;unfold condP at h;split at h
  ·rename_i t g;cases t;·let⟨n,o,d,e⟩:=h;exact⟨n+1,o,by rw[ev,g];grind,e⟩
   ·let⟨n,o,d,e⟩:=h;exact⟨n+1,o,by rw[ev,g];grind,e⟩
  grind
def optP{α:Type}(x:Option α)(K:α->Prop):Prop:=match x with|some v=>K v|none=>False
theorem Qv{a:Type}{v:a}{K:a->Prop}:optP (some v) K↔K v:=Iff.rfl
theorem Qf{a:Type}{K:a->Prop}:optP none K↔False:=Iff.rfl
theorem db{a:Type}{x:Option a}{K:a->Prop}:optP x K↔∃v,x=some v/\K v:=by cases x<;>simp[optP]
theorem Wp_loop{Γ a k c d H Q}:Wp Γ (.loop a k c) d H Q↔optP (norm a k d H) λf=>Wp Γ c f.1 f.2 (Nxt Q λe h=>Wp Γ (.loop a k c) e h Q):=by
 constructor;·rintro⟨n,o,b,i⟩;cases n with|zero=>simp[ev]at b|succ n=>rw[ev]at b;cases j:norm a k d H with|none=>grind|some f=>simp[j]at b;rw[Qv];cases l:ev Γ n c f.1 f.2 with|none=>grind|some x=>
     rw[l]at b;let⟨y,e,h⟩:=x;refine⟨n,_,l,?_⟩;cases y<;>simp[Nxt]at b⊢;·exact⟨n,o,b,i⟩
     all_goals grind
 ·intro h;rw[db]at h;let⟨f,j,n,⟨y,e,h⟩,b,i⟩:=h;cases y;·let⟨m,o,q,p⟩:=i;refine⟨max n m+1,o,?_,p⟩;rw[ev,j];simp;rw[UE (Nat.le_max_left n m) _ _ _ _ b];exact UE (Nat.le_max_right n m) _ _ _ _ q
  all_goals exact⟨n+1,_,by rw[ev,j];grind,i⟩
theorem Wp_loop'{Γ L a f c d H Q}(h:L=.loop a f c):Wp Γ L d H Q↔optP (norm a f d H) λg=>Wp Γ c g.1 g.2 (Nxt Q λe h=>Wp Γ L e h Q):=by subst h;exact Wp_loop
theorem WpS_nil{Γ b H Q}:WpS Γ [] b H Q↔Q b H:=⟨λ⟨_,_,c,d⟩=>by simp[iA,]at c;grind,λh=>⟨0,_,rfl,h⟩⟩
def WpO(Γ:Ctx)(o:QOp⊕XOp)(env:Env)(H:Heap)(K:AV->Heap->Prop):Prop:=∃n,match o with|.inl q=>optP (evQ Γ (callOf Γ (ev Γ n)) (look env) H q) λv=>K v H|.inr x=>optP (evX Γ (callOf Γ (ev Γ n)) (look env) H x) λr=>K r.1 r.2
def gd(x:Option Bool)(A B:Prop):Prop:=match x with|some t=>if t=true then B else A|none=>False
theorem QX{t A B}:gd (some t) A B↔if t=true then B else A:=Iff.rfl
theorem Ek{Γ i g o r a H Q}:WpS Γ (⟨i,g,o⟩::r) a H Q↔gd (wanted (look a) g) (WpS Γ r (put a i .nov) H Q) (WpO Γ o a H λv j=>WpS Γ r (put a i v) j Q):=by
 constructor;·rintro⟨n,x,c,d⟩;simp[iA]at c;cases f:wanted (look a) g with|none=>grind|some b=>cases b with|false=>simp[f]at c;exact⟨n,x,c,d⟩|true=>simp[f]at c;refine⟨n,?_⟩;cases o with
    |inl q=>simp  at c⊢;cases e:evQ Γ (callOf Γ (ev Γ n)) (look a) H q with|none=>grind|some v=>simp[e]at c;exact⟨n,x,c,d⟩
    |inr q=>simp  at c⊢;cases e:evX Γ (callOf Γ (ev Γ n)) (look a) H q with|none=>grind|some v=>simp[e]at c;exact⟨n,x,c,d⟩
 ·intro h;cases f:wanted (look a) g with|none=>rw[f]at h;exact h.elim|some b=>rw[f]at h;cases b with
   |false=>let⟨n,x,c,d⟩:=h;exact⟨n,x,by simp[iA,];grind,d⟩|true=>let⟨n,h⟩:=h;cases o with|inl q=>simp[db]at h;let⟨v,e,m,x,c,d⟩:=h;refine⟨max n m,x,?_,d⟩;simp[iA,f,wh (js (Nat.le_max_left n m)) e];exact kH (js (Nat.le_max_right n m)) c|inr q=>simp only[db]at h;let⟨v,e,m,x,c,d⟩:=h;refine⟨max n m,x,?_,d⟩;simp[iA,f,Lr (js (Nat.le_max_left n m)) e];exact kH (js (Nat.le_max_right n m)) c
def uH:rm:=λ_ _ _=>none
theorem BE{a:Type}{x:Nat->Option a}{y:Option a}(h:∀n,x n=y){K:a->Prop}:(∃n,optP (x n) K)↔optP y K:=by simp[*]
def QOp.plain:QOp->Bool|.call _ _|.callr _ _=>false|_=>true
def XOp.plain:XOp->Bool|.callf _ _|.calls _ _|.callz _ _|.callw _ _|.callwr _ _|.callwk _ _ _|.callk _ _ _|.pureq _|.treeq _=>false|_=>true
theorem iz{Γ q a H K}(h:q.plain=true):WpO Γ (.inl q) a H K↔optP (evQ Γ uH (look a) H q) λv=>K v H:=BE λn=>by cases q<;>first|rfl|cases h
theorem mh{Γ x a H K}(h:x.plain=true):WpO Γ (.inr x) a H K↔optP (evX Γ uH (look a) H x) λr=>K r.1 r.2:=BE λn=>by cases x<;>first|rfl|cases h
section


variable{Γ:Ctx}{env:Env}{H:Heap}{K:AV->Heap->Prop}
end
theorem RunP_of{Γ:Ctx}{f:Nat}{fn:AFn}{args rs:List PV}(m:Γ.fn f=some (.code fn))(g:args.length=fn.np)(h:Wp Γ fn.body (ma (args.map .p)) [] λo=>(∀i,o.1≠.ex i)/\optP (mapO (RV.get o.2.1 o.2.2) fn.results) λb=>mapO (aI o.2.2 4) b=some rs):RunP Γ f args rs:=by let⟨n,⟨x,e,H⟩,j,k,c⟩:=h;rw[db]at c;let⟨b,l,d⟩:=c;refine⟨n,(b,H),?_,d⟩;unfold callOf;grind
theorem lr{Γ:Ctx}{f:Nat}{g}{args rs:List PV}(d:Γ.fn f=some (.prim g))(h:g args=some rs):RunP Γ f args rs:=by
 have e:∀l:List PV,iT (l.map .p)=some l:=by intro l;induction l with|nil=>rfl|cons a l b=>simp[iT,b]
 have c:∀(H:Heap)(l:List PV),mapO (aI H 4) (l.map .p)=some l:=by intro H l;induction l with|nil=>rfl|cons a l b=>simp[mapO,b,show aI H 4 (.p a)=some a from rfl]
 refine⟨0,(rs.map .p,[]),?_,c _ _⟩;unfold callOf;grind
theorem wrap_i64{x:Int}(c:-9223372036854775808<=x)(b:x<=9223372036854775807):IntKind.i64.wrap x=x:=by simp[IntKind.wrap,IntKind.bits,IntKind.signed,];grind
theorem wrap_u8{x:Int}(b:0<=x)(c:x<=255):IntKind.u8.wrap x=x:=by simp[IntKind.wrap,IntKind.bits,IntKind.signed,];grind
theorem ud(n:Nat):((n:Int)).toNat=n:=Int.toNat_natCast n
end Ab
