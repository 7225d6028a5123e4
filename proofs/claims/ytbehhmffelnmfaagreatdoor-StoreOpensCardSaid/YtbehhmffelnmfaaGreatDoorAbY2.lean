import Derived.Test.YtbehhmffelnmfaaGreatDoorAbX12
set_option linter.all false
namespace Ab
open Go (Act Builtin IntKind MapEntry Next Op Oper Operand Program Result Sem TypeId Value World execOp undef)
section


variable{N:Names}{P:Program}{w:World}{S:Nat->Prop}{μ:Nat->Value}{H:Heap}
theorem mG:∀{g:List Nat}{a b:List PV}{t:Bool},aN g a b=some t->(t=true↔a=b)
 |[],a,b,t,h=>by cases a<;>cases b<;>simp[aN,]at h;grind|k::g,a,b,t,h=>by
  unfold aN at h;split at h;·grind
  ·rename_i e;cases e;split at h;·rename_i i;obtain⟨f,c,rfl⟩:=Option.map_eq_some_iff.1 h;have :=mG c;grind
   grind
  ·rename_i e;cases e;obtain⟨f,c,rfl⟩:=Option.map_eq_some_iff.1 h;have :=mG c;grind
  ·rename_i e;cases e;obtain⟨f,c,rfl⟩:=Option.map_eq_some_iff.1 h;have :=mG c;grind
  grind
theorem jM:∀{f:List Nat}{a b:List PV}{t:Bool},aN f a b=some t->aN f b b=some true/\a.length=f.length
 |[],a,b,t,h=>by cases a<;>cases b<;>simp[aN,]at h;exact⟨rfl,rfl⟩|k::f,a,b,t,h=>by
  unfold aN at h;split at h;·grind
  ·rename_i e;cases e;split at h;·obtain⟨i,c,rfl⟩:=Option.map_eq_some_iff.1 h;let⟨d,j⟩:=jM c;exact⟨by simp[aN,d],by grind⟩
   grind
  ·rename_i e;cases e;obtain⟨i,c,rfl⟩:=Option.map_eq_some_iff.1 h;let⟨d,j⟩:=jM c;exact⟨by simp[aN,d],by grind⟩
  ·rename_i e;cases e;obtain⟨i,c,rfl⟩:=Option.map_eq_some_iff.1 h;let⟨d,j⟩:=jM c;exact⟨by simp[aN,d],by grind⟩
  grind
def cellV:PV->Value|.int k n=>.int k n|.bool b=>.bool b|.str s=>.string ⟨s.toArray⟩|_=>undef
theorem Gj{ν:Nat->Nat}:∀{i:List Nat}{a b:List PV}{t:Bool},aN i a b=some t->∀{us:Nat->Value},(∀j c,a[j]?=some c->RelP ν w S c (us j))->∀j c,a[j]?=some c->us j=cellV c
 |[],a,b,t,h,us,n,j,c,p=>by cases a<;>cases b<;>simp[aN,]at h;grind|k::i,a,b,t,h,us,n,j,c,p=>by
  have d:∀(x:PV)(l m:List PV)(g:Bool),a=x::l->aN i l m=some g->(RelP ν w S x (us 0)->us 0=cellV x)->us j=cellV c:=by rintro x l m g rfl f q;cases j with|zero=>grind|succ j=>exact Gj f (us:=λj=>us (j+1)) (λj c r=>n (j+1) c (by grind)) j c (by grind)
  unfold aN at h;split at h;·grind
  ·rename_i e;cases e;split at h;·obtain⟨g,f,rfl⟩:=Option.map_eq_some_iff.1 h;exact d _ _ _ _ rfl f λh=>h.int_inv
   grind
  ·rename_i e;cases e;obtain⟨g,f,rfl⟩:=Option.map_eq_some_iff.1 h;exact d _ _ _ _ rfl f λh=>h.bool_inv
  ·rename_i e;cases e;obtain⟨g,f,rfl⟩:=Option.map_eq_some_iff.1 h;exact d _ _ _ _ rfl f λh=>h.str_inv
  grind
theorem wM{ν:Nat->Nat}{f:List Nat}{a b:List PV}{t:Bool}{u:Value}(h:aN f a b=some t)(d:RelP ν w S (.agg a) u):u=.agg (a.map cellV).toArray:=by cases d with|agg _ us k l e=>
 congr 1;refine Array.ext (by grind) λj m g=>?_;have c:j<a.length:=by omega
 have :=Gj h (us:=λj=>us.getD j undef) e j a[j] (List.getElem?_eq_getElem c);simp_all
theorem sE:∀{i:List Nat}{a b:List PV}{t:Bool},aN i a b=some t->a.map cellV=b.map cellV->a=b
 |[],a,b,t,h,_=>by cases a<;>cases b<;>simp[aN,]at h;rfl|k::i,a,b,t,h,c=>by
  unfold aN at h;split at h;·rfl
  ·rename_i e;cases e;split at h;·obtain⟨g,d,rfl⟩:=Option.map_eq_some_iff.1 h;simp[cellV,]at c;rw[sE d c.2,c.1.1,c.1.2]
   grind
  ·rename_i e;cases e;obtain⟨g,d,rfl⟩:=Option.map_eq_some_iff.1 h;simp[cellV,]at c;rw[sE d c.2,c.1]
  ·rename_i e;cases e;obtain⟨g,d,rfl⟩:=Option.map_eq_some_iff.1 h;simp[cellV,]at c;rw[sE d c.2];grind
  grind
theorem EY{a:TypeId}{g:List Nat}{e f:List PV}{t:Bool}{x y:Value}(b:eqsT P a g=true)(n:RelP N.fn w S (.agg e) x)(l:RelP N.fn w S (.agg f) y)(q:aN g e f=some t):(Go.Op.equal a x y).run P w=.ok t w:=by cases n with|agg _ xs z u r=>cases l with|agg _ ys k1 k2 B=>
 unfold eqsT at b;split at b
 ·rename_i k h;simp[]at b;let⟨⟨m,A⟩,o⟩:=b;have i:P.fieldsOf a=k:=by simp[Program.fieldsOf,h]
  have v:=uP (P:=P) (w:=w) (N:=N) (S:=S) (d:=9998) (xs:=xs) (ys:=ys) k.toList g 0 e f t o (by omega) (by omega) (λj c p=>by grind) (λj c p=>by grind) q;show(Go.Op.equalIn 10000 a (.agg xs) (.agg ys)).run P w=.ok t w;rw[show(10000:Nat)=9999+1 from rfl,Go.run_equalIn_struct w 9999 a xs ys (by grind) m,i];grind
 grind
theorem BB{a:TypeId}{b:List Nat}(d:eqsT P a b=true):∃c,P.underlying a=some (.struct c)/\eqFs P c.toList b 0=true:=by unfold eqsT at d;grind
theorem LM{s:TypeId}{B:List Nat}{k:List PV}{u x:Value}{v:AV}(E:eqsT P s B=true)(f:RelP N.fn w S (.agg k) u)(A:aN B k k=some true)(d:v.ok=true)(t:RelV N.fn w S μ H v x):∀{z:List (PV×AV)}{l:List MapEntry}(i:Nat){b:List (PV×AV)},MapRel N.fn w S μ H z l->Cy B k v z=some b->((Go.Instr.findAsking s u l i).run P w=.ok none w/\(∀e∈l,e.key≠u)/\∀e:MapEntry,e.key=u->e.val=x->MapRel N.fn w S μ H b (l++[e]))\/∃j e,(Go.Instr.findAsking s u l i).run P w=.ok (some (i+j,e.val)) w/\l[j]?=some e/\e.key=u/\∀p:MapEntry,p.key=u->p.val=x->MapRel N.fn w S μ H b (l.set j p)
 |[],[],i,b,_,h=>by simp[Cy,]at h;subst h;refine .inl ⟨by rfl,by simp,λe m n=>?_⟩;subst m n;exact⟨f,d,t,trivial⟩|(r,T)::z,e::l,i,b,a,h=>by
  cases r<;>simp[Cy,]at h;rename_i r;split at h
  ·rename_i c;simp[]at h;subst h;have o:=EY E f a.1 c;have g:e.key=u:=by have :=(mG c).1 rfl;subst this;rw[wM c a.1,wM c f]
   refine .inr ⟨0,e,by simp[Go.Instr.findAsking,o],rfl,g,λp m n=>?_⟩;subst m n;exact⟨f,d,t,a.2.2.2⟩
  ·rename_i c;obtain⟨K,I,rfl⟩:=Option.map_eq_some_iff.1 h;have o:=EY E f a.1 c;have J:e.key≠u:=by
    intro m;have L:=wM (jM c).1 a.1;rw[m,wM c f]at L;have R:k=r:=by refine sE c ?_;grind
    grind
   rcases LM E f A d t (i+1) a.2.2.2 I with⟨D,O,F⟩|⟨j,n,D,O,F,M⟩;·refine .inl ⟨by simp[Go.Instr.findAsking,o,D],λy U=>?_,λy C q=>⟨a.1,a.2.1,a.2.2.1,F y C q⟩⟩;grind
   ·exact .inr ⟨j+1,n,by simp[Go.Instr.findAsking,o,D];omega,by grind,F,λy C q=>⟨a.1,a.2.1,a.2.2.1,M y C q⟩⟩
  grind|[],_::_,_,_,a,_=>a.elim|(_,_)::_,[],_,_,a,_=>a.elim
theorem Lg{g:Go.Field->Unit->Go.Sem (ForInStep Unit)}:∀(a:List Go.Field),(∀f∈a,(g f ()).run P w=.ok (.yield ()) w)->(forIn a () g).run P w=.ok () w
 |[],_=>by simp|f::a,h=>by simp[h f (by simp),];exact Lg a λf c=>h f (by grind)
theorem Ko:∀{a:List Go.Field}{c:List Nat}{k:Nat},eqFs P a c k=true->∀f∈a,f.name≠ "_"/\f.offset<k+c.length/\∃kd,fO P f.type kd=true
 |[],_,_,_,f,b=>by grind|g::a,[],_,h,_,_=>by simp[eqFs]at h|g::a,kd::c,k,h,f,b=>by
  simp[eqFs,]at h;let⟨⟨⟨i,j⟩,o⟩,d⟩:=h;rcases List.mem_cons.1 b with rfl|b;·grind
  ·let⟨m,n,l⟩:=Ko d f b;grind
theorem EF{c:TypeId}{d:List Nat}{us:Array Value}(e:eqsT P c d=true)(l:d.length<=us.size):(Go.Instr.checkKey false 10000 c (.agg us)).run P w=.ok () w:=by
 let⟨j,i,h⟩:=BB e;rw[show(10000:Nat)=9998+1+1 from rfl,Go.Instr.checkKey];simp only[Go.Sem.run_bind,Go.run_underlying i,Go.Result.andThen_ok];rw[<-Array.forIn_toList];rw[Lg (P:=P) (w:=w) j.toList λf g=>?_];·simp
 ·let⟨n,q,kd,a⟩:=Ko h f g;have o:=gz (P:=P) (w:=w) (xs:=us) (k:=f.offset) a (by omega);have p:(Go.Instr.checkKey false (9998+1) f.type (us.getD f.offset undef)).run P w=.ok () w:=by
   unfold Go.Instr.checkKey;unfold fO at a;split at a
   ·split at a;·rename_i b;simp[Go.run_underlying b,]
    grind
   ·split at a;·rename_i b;simp[Go.run_underlying b,]
    grind
   ·split at a;·rename_i b;simp[Go.run_underlying b,]
    grind
   grind
  simp_all
theorem Ua{a:TypeId}{c:List Nat}{us:Array Value}{l:List MapEntry}(b:eqsT P a c=true):(Go.Instr.findKey a (.agg us) l).run P w=(Go.Instr.findAsking a (.agg us) l 0).run P w:=by let⟨h,d,f⟩:=BB b;simp[Go.Instr.findKey,Go.run_underlying d,];cases l with|nil=>rfl|cons e l=>rfl
theorem jA{n:Nat}:∀{i:List Nat}{a b:List PV}{t:Bool},aN i a b=some t->∀c∈a,Go.Instr.sameBits n (cellV c) (cellV c)=true
 |[],a,b,t,h,c,d=>by cases a<;>cases b<;>simp[aN,]at h;grind|k::i,a,b,t,h,c,d=>by
  unfold aN at h;split at h;·grind
  ·rename_i e;cases e;split at h
   ·obtain⟨j,f,rfl⟩:=Option.map_eq_some_iff.1 h;rcases List.mem_cons.1 d with rfl|d;·simp[cellV,Go.Instr.sameBits]
    ·exact jA f c d
   grind
  ·rename_i e;cases e;obtain⟨j,f,rfl⟩:=Option.map_eq_some_iff.1 h;rcases List.mem_cons.1 d with rfl|d;·simp[cellV,Go.Instr.sameBits]
   ·exact jA f c d
  ·rename_i e;cases e;obtain⟨j,f,rfl⟩:=Option.map_eq_some_iff.1 h;rcases List.mem_cons.1 d with rfl|d;·simp[cellV,Go.Instr.sameBits,Go.MapKept.bytes_beq]
   ·exact jA f c d
  grind
theorem vE{g:List Nat}{a b:List PV}{t:Bool}(h:aN g a b=some t):(Go.Instr.keyThatStays (.agg (a.map cellV).toArray) (.agg (a.map cellV).toArray)).run P w=.ok (.agg (a.map cellV).toArray) w:=by
 have :Go.Instr.sameBits 10000 (.agg (a.map cellV).toArray) (.agg (a.map cellV).toArray)=true:=by
  rw[show(10000:Nat)=9999+1 from rfl,Go.Instr.sameBits];simp only[beq_self_eq_true,Bool.true_and,List.all_eq_true];intro x i;obtain⟨y,e,rfl⟩:∃y∈a.map cellV,x=(y,y):=by grind
  obtain⟨c,f,rfl⟩:=List.mem_map.1 e;exact jA h c f
 simp[Go.Instr.keyThatStays,this]
theorem x_msets(G:Rel N.fn w S μ H){T k e:TypeId}{R:List Nat}{x i y:Value}{K Q M:AV}{U:Heap}(hT:mapT P T=some (k,e))(F:eqsT P k R=true)(V:RelV N.fn w S μ H K x)(hi:RelV N.fn w S μ H Q i)(hy:RelV N.fn w S μ H M y)(t:Cb H R K Q M=some U):∃I v,(Go.Instr.mapUpdate T x i y).run P w=.ok () I/\Step N.fn w S μ H I S v U:=by
 have O:=nU hT;unfold Cb at t;split at t;rotate_left;·grind
 rename_i id kv;simp[ifB_some,Option.bind_eq_some_iff,]at t;obtain⟨⟨c,E⟩,es,d,X,hp,rfl⟩:=t;obtain⟨g,rfl,hl,r⟩:=V.mp_inv;let⟨g',b,a,J,m,p,Y⟩:=G.map_of d;have r:=r _ (eZ d);rw[r]at J;cases J;have hi:=hi.p_inv;have f:=wM c hi;have o:(Go.Instr.checkKey false 10000 k i).run P w=.ok () w:=by rw[f];exact EF F (by have :=(jM c).2;grind)
 have q:∀l,(Go.Instr.findKey k i l).run P w=(Go.Instr.findAsking k i l 0).run P w:=by intro l;rw[f];exact Ua F
 have A:(Go.Instr.keyThatStays i i).run P w=.ok i w:=by rw[f];exact vE c
 rcases LM F hi c E hy 0 Y hp with⟨u,h0,L⟩|⟨j,en,u,L,W,Z⟩
 ·have B:=(q _).trans u;refine⟨{w with heap:=w.heap.setIfInBounds g (.map (b.push {key:=i,val:=y,born:=a}) (a+1))},_,?_,pF G d r m (Go.MapKept.stamped_push p h0) λz D=>?_⟩;·simp[Go.Instr.mapUpdate,Go.run_underlying O,Go.MapKept.run_getObj_map m,o,B,Go.MapKept.run_setObj_map _ m]
  ·rw[Array.toList_push];exact(L _ rfl rfl).keep (λ_ h=>h) z D
 ·have B:=(q _).trans u;have C:b[j]?=some en:=by grind
  refine⟨{w with heap:=w.heap.setIfInBounds g (.map (b.modify j λe=>{e with key:=i,val:=y}) a)},_,?_,pF G d r m (Go.MapKept.stamped_modify p _ _ (λ_ _=>rfl) (λe' _ he'=>by grind)) λz D=>?_⟩;·simp[Go.Instr.mapUpdate,Go.run_underlying O,Go.MapKept.run_getObj_map m,o,B,Go.MapKept.run_setObj_map _ m,C,W,A]
  ·have e:(b.modify j λe=>{e with key:=i,val:=y}).toList=b.toList.set j {en with key:=i,val:=y}:=by rw[Array.toList_modify];refine List.ext_getElem? λn=>?_;grind
   rw[e];exact(Z _ rfl rfl).keep (λ_ h=>h) z D
end
def nu(N:Names):List Operand->List Arg->Bool|[],[]=>true|x::xs,y::ys=>az N x y&&nu N xs ys|_,_=>false
def chkO(N:Names):Option Operand->Option Arg->Bool|none,none=>true|some x,some y=>az N x y|_,_=>false
def nh(N:Names)(pl:Nat->Option (Nat×Nat)):List (Nat×Operand)->List Parts->Bool|[],[]=>true|x::xs,y::ys=>(match pl x.1 with|some r=>r.1==y.off&&r.2==y.sz|none=>false)&&az N x.2 y.arg&&nh N pl xs ys|_,_=>false
def nz(P:Program)(T:TypeId)(sz:Nat):Bool:=match P.info? T with|some i=>i.size==sz|none=>false
def aggT(P:Program)(T:TypeId)(ag:Bool):Bool:=match aggB P T with|some b=>b==ag|none=>false
def Ue(P:Program)(T:TypeId)(k:IntKind):Bool:=match intT P T with|some k'=>k'==k|none=>false
def fieldAt(P:Program)(T:TypeId)(k:Nat):Option Go.Field:=(ue P T).bind λfs=>fs[k]?
theorem cr{P T sz}(h:nz P T sz=true):(P.info? T).map (·.size)=some sz:=by unfold nz at h;grind
theorem oC{P T ag}(h:aggT P T ag=true):aggB P T=some ag:=by unfold aggT at h;grind
theorem tY{P T k}(h:Ue P T k=true):intT P T=some k:=by unfold Ue at h;grind
theorem vg{P T k f}(h:fieldAt P T k=some f):∃a,ue P T=some a/\a[k]?=some f:=Option.bind_eq_some_iff.1 h
def jY(o:Oper):Option (Go.Callee×List Operand×List TypeId):=match o.op with|.call c=>some (c.callee,c.args.toList,c.argTypes.toList)|_=>none
theorem MD{H:Heap}{x k v:AV}(h:MZ H x k=some v):(jm H false x).map (λ(n:Nat)=>AV.p (.int .i64 (n:Int)))=some v:=by
 unfold MZ at h;split at h;·let⟨cs,_,a⟩:=Option.bind_eq_some_iff.1 h;exact(ifB_some.1 a).2
 grind
theorem Hm{H:Heap}{sz ag}{x k v:AV}(h:zb H sz ag x k=some v):kj H sz ag x=some v:=by unfold zb at h;grind
def chkQ(P:Program)(N:Names)(o:Oper):QOp->Bool
 |.bad=>true|.mov x=>match o.op with|.move y|.assign y=>az N y x|_=>false
 |.pick c a b=>match o.op with|.pick c' a' b'=>az N c' c&&az N a' a&&az N b' b|_=>false
 |.nilchk x=>match o.op with|.nilCheck y=>az N y x|_=>false
 |.bin op x y=>match o.op with|.binOp op' _ x' y' _=>decide (op'=op)&&az N x' x&&az N y' y|_=>false
 |.eqs ks neg x y=>match o.op with|.binOp op T x' y' _=>decide (op=if neg then .neq else .eql)&&(eqsT P T ks||eqaT P T ks)&&az N x' x&&az N y' y|_=>false
 |.eqk kd neg x y=>match o.op with|.binOp op T x' y' _=>decide (op=if neg then .neq else .eql)&&eqkT P T kd&&az N x' x&&az N y' y|_=>false
 |.un op x=>match o.op with|.unOp op' _ x'=>decide (op'=op)&&az N x' x|_=>false
 |.conv k x=>match o.op with|.convert s d x'=>(intT P s).isSome&&Ue P d k&&az N x' x|_=>false
 |.same x=>match o.op with|.convert s d x'=>strT P s&&strT P d&&az N x' x|_=>false
 |.strOf x=>match o.op with|.convert s d x'=>(match slT P s with|some e=>Ue P e .u8|none=>false)&&strT P d&&az N x' x|_=>false
 |.runeStr x=>match o.op with|.convert s d x'=>(intT P s).isSome&&strT P d&&az N x' x|_=>false
 |.len s x=>match jY o with|some (.builtin .len,[x'],[T])=>(if s then strT P T else(slT P T).isSome)&&az N x' x|_=>false
 |.idx x i=>match o.op with|.index T x' i'=>strT P T&&az N x' x&&az N i' i|_=>false
 |.aidx sz ag n x i=>match o.op with|.index T x' i'=>(match arrT P T with|some (n',e)=>n'==n&&aggT P e ag&&nz P e sz|none=>false)&&az N x' x&&az N i' i|_=>false
 |.fld off sz ag x=>match o.op with|.field T x' k=>(match fieldAt P T k with|some f=>f.offset==off&&aggT P f.type ag&&nz P f.type sz|none=>false)&&az N x' x|_=>false
 |.faddr off x=>match o.op with|.fieldAddr T x' k=>(match fieldAt P T k with|some f=>f.offset==off&&(P.info? f.type).any (·.size !=0)|none=>false)&&az N x' x|_=>false
 |.iaddr sz x i=>match o.op with|.indexAddr T x' i'=>(match slT P T with|some e=>nz P e sz|none=>false)&&decide (0<sz)&&az N x' x&&az N i' i|_=>false
 |.iaddrA sz n x i=>match o.op with|.indexAddr T x' i'=>(match arrT P T with|some (n',e)=>n'==n&&nz P e sz|none=>false)&&az N x' x&&az N i' i|_=>false
 |.load sz ag x=>match o.op with|.load T x'=>aggT P T ag&&nz P T sz&&az N x' x|_=>false
 |.sliceS x lo hi=>match o.op with|.slice T x' lo' hi' none=>strT P T&&az N x' x&&chkO N lo' lo&&chkO N hi' hi|_=>false
 |.slice sz x lo hi=>match o.op with|.slice T x' lo' hi' none=>(match slT P T with|some e=>nz P e sz|none=>false)&&az N x' x&&chkO N lo' lo&&chkO N hi' hi|_=>false
 |.build zero parts=>match o.op with|.build T ps=>Bc P T zero&&qH P T&&nh N (EJ P T) ps.toList parts|_=>false
 |.bslice sz ag n zero parts=>match o.op with|.buildSlice T n' ps=>(match slT P T with|some e=>nz P e sz&&uC P e (n*sz) zero|none=>false)&&n'==n&&decide (0<sz)&&(ag||sz==1)&&decide (n*sz<=16777216)&&nh N (λi=>some (i*sz,sz)) ps.toList parts|_=>false
 |.appq sz x y=>match jY o with|some (.builtin .append,[x',y'],[T,T'])=>T'==T&&(match slT P T with|some e=>rowT P e sz|none=>false)&&decide (0<sz)&&az N x' x&&az N y' y|_=>false
 |.mget kd zero comma x k=>match o.op with|.lookup T x' k' c=>(match mapT P T with|some (kt,e)=>(match P.underlying kt with|some d=>kdIs kd d|none=>false)&&zeroV P e zero|none=>false)&&c==comma&&az N x' x&&az N k' k|_=>false
 |.mlen x=>match jY o with|some (.builtin .len,[x'],[T])=>(mapT P T).isSome&&az N x' x|_=>false
 |.wslice sz x lo hi=>match o.op with|.slice T x' lo' hi' none=>(match slT P T with|some e=>nz P e sz|none=>false)&&az N x' x&&chkO N lo' lo&&chkO N hi' hi|_=>false
 |.lenk x _=>match jY o with|some (.builtin .len,[x'],[T])=>(slT P T).isSome&&az N x' x|_=>false
 |.loadk sz ag x _=>match o.op with|.load T x'=>aggT P T ag&&nz P T sz&&az N x' x|_=>false
 |.isnil neg x y=>match o.op with|.binOp op T x' y' _=>decide (op=if neg then .neq else .eql)&&(slT P T).isSome&&az N x' x&&az N y' y|_=>false
 |.ext x i=>match o.op with|.extract x' i'=>i'==i&&az N x' x|_=>false
 |.minmax mx xs=>match jY o with|some (.builtin b,xs',_)=>decide (b=if mx then .max else .min)&&nu N xs' xs|_=>false
 |.clos f caps=>match o.op with|.makeFunc (.func f') first caps'=>f'==N.fn f&&first.toList.isEmpty&&nu N caps'.toList caps|_=>false
 |.call f args=>match jY o with|some (.value f',xs',_)=>az N f' f&&nu N xs' args|_=>false
 |.callr f args=>match jY o with|some (.value f',xs',_)=>az N f' f&&nu N xs' args|_=>false
 |.mkt sz ag zero n c=>match o.op with|.makeSlice T n' c'=>(match slT P T with|some e=>rowT P e sz&&Bc P e zero|none=>false)&&zero.length==sz&&decide (0<sz)&&(ag||sz==1)&&az N n' n&&az N c' c|_=>false
section


variable{Γ:Ctx}{N:Names}{P:Program}{w:World}{S:Nat->Prop}{μ:Nat->Value}{H:Heap}{σ:Nat->AV}{a:Act}
theorem Env.Rel.args(b:Env.Rel Γ N w S μ H σ a):∀{xs ys},nu N xs ys=true->All2 (λu v=>RelV N.fn w S μ H v u) (xs.map a.eval) (ys.map (Arg.ev Γ σ))
 |[],[],_=>trivial|x::xs,y::ys,h=>by simp[nu,]at h;exact⟨b.arg h.1,b.args h.2⟩|[],_::_,h=>by cases h|_::_,[],h=>by cases h
theorem Env.Rel.opt(b:Env.Rel Γ N w S μ H σ a):∀{x y},chkO N x y=true->RelO N.fn w S μ H (y.map (Arg.ev Γ σ)) (x.map a.eval)|none,none,_=>trivial|some x,some y,h=>b.arg h|none,some _,h=>by cases h|some _,none,h=>by cases h
theorem Env.Rel.parts(b:Env.Rel Γ N w S μ H σ a){c:Nat->Option (Nat×Nat)}:∀{xs ys},nh N c xs ys=true->All2 (λ(x:Nat×Value)(y:Nat×Nat×AV)=>c x.1=some (y.1,y.2.1)/\RelV N.fn w S μ H y.2.2 x.2) (xs.map λx=>(x.1,a.eval x.2)) (ys.map λq=>(q.off,q.sz,q.arg.ev Γ σ))
 |[],[],_=>trivial|x::xs,y::ys,h=>by simp[nh,]at h;let⟨⟨f,e⟩,d⟩:=h;refine⟨⟨?_,b.arg e⟩,b.parts d⟩;grind|[],_::_,h=>by cases h|_::_,[],h=>by cases h
def QDone(N:Names)(P:Program)(w:World)(S:Nat->Prop)(μ:Nat->Value)(H:Heap)(o:Oper)(a:Act)(v:AV):Prop:=∃u w' S',(execOp a.eval o).run P w=.ok (.value u) w'/\Step N.fn w S μ H w' S' μ H/\RelV N.fn w' S' μ H v u
theorem QDone.of(b:Rel N.fn w S μ H){o:Oper}{v:AV}{r:Sem Value}(e:execOp a.eval o=(do pure (.value (<-r))))(h:∃u,r.run P w=.ok u w/\RelV N.fn w S μ H v u):QDone N P w S μ H o a v:=by let⟨u,d,c⟩:=h;exact⟨u,w,S,by simp[*],.refl b,c⟩
theorem QDone.val(b:Rel N.fn w S μ H){o:Oper}{v:AV}{u:Value}(c:execOp a.eval o=pure (.value u))(h:RelV N.fn w S μ H v u):QDone N P w S μ H o a v:=⟨u,w,S,by simp[*],.refl b,h⟩
theorem dY{o:Oper}{b:Builtin}{xs:List Operand}{d:List TypeId}(h:jY o=some (.builtin b,xs,d)):∃cs,execOp a.eval o=Go.builtin b d.toArray o.type cs (xs.map a.eval).toArray:=by
 unfold jY at h;split at h
 ·rename_i c e;simp[]at h;let⟨g,k,j⟩:=h;refine⟨c.args.map λ|.const _=>true|_=>false,?_⟩;have i:d.toArray=c.argTypes:=by grind
  have f:(xs.map a.eval).toArray=c.args.map a.eval:=by grind
  rw[i,f];simp[execOp,e,Go.resolve,g];rfl
 grind
theorem mkt_spec{sz:Nat}{ag:Bool}{zero:List PV}{n c v:AV}(h:mktA sz ag zero n c=some v):∃xs,v=.p (.sl .any sz xs)/\lV H sz ag zero n c=some (.own H.length xs.length,H++[.row false sz xs]):=by
 unfold mktA at h;split at h;·simp[]at h;obtain⟨⟨e,f,d,b⟩,rfl⟩:=h;exact⟨_,rfl,by simp[lV];grind⟩
 grind
theorem Hv{o:Oper}{q:QOp}{v:AV}{call:Nat->List AV->Heap->Option (List AV×Heap)}(hq:q.plain=true)(j:chkQ P N o q=true)(A:Env.Rel Γ N w S μ H σ a)(C:Rel N.fn w S μ H)(D:evQ Γ call σ H q=some v):QDone N P w S μ H o a v:=by cases q with
 |mov x=>
  simp[chkQ]at j;simp[evQ,]at D;subst D;split at j;·rename_i y t;exact .val C (by simp[execOp,t]) (A.arg j)
  ·rename_i y t;exact .val C (by simp[execOp,t]) (A.arg j)
  grind|pick c x y=>
  simp[chkQ]at j;split at j;·rename_i c' E y' t;simp[Bool.and_eq_true]at j;let⟨u,l,B⟩:=q_pick (P:=P) A j.1.1 j.1.2 j.2 D;exact⟨u,w,S,by simp only[execOp,t];grind,.refl C,B⟩
  grind|nilchk x=>
  simp[chkQ]at j;split at j;·rename_i y t;have L:=A.arg j;obtain⟨rfl,h⟩:=q_nilchk L D;refine .val C (u:=a.eval y) ?_ L;simp[execOp,t];grind
  grind|bin op x y=>
  simp[chkQ]at j;split at j;·rename_i Z T E y' _ t;simp[Bool.and_eq_true,decide_eq_true_eq]at j;obtain⟨⟨rfl,l⟩,B⟩:=j;exact .of C (by simp[execOp,t]) (q_bin (T:=T) (A.arg l) (A.arg B) D)
  grind|eqs ks neg x y=>
  simp[chkQ]at j;split at j
  ·rename_i Z T E y' _ t;simp only[Bool.and_eq_true,decide_eq_true_eq]at j;let⟨⟨⟨K,W⟩,l⟩,B⟩:=j;rcases Bool.or_eq_true _ _▸W with W|W;·exact .of C (by simp[execOp,t]) (q_eqs K W (A.arg l) (A.arg B) D)
   ·exact .of C (by simp[execOp,t]) (q_eqa K W (A.arg l) (A.arg B) D)
  grind|eqk kd neg x y=>
  simp only[chkQ]at j;split at j;·rename_i Z T E y' _ t;simp only[Bool.and_eq_true,decide_eq_true_eq]at j;obtain⟨⟨⟨K,W⟩,l⟩,B⟩:=j;exact .of C (by simp only[execOp,t]) (q_eqk K W (A.arg l) (A.arg B) D)
  grind|un op x=>
  simp only[chkQ]at j;split at j;·rename_i Z T E t;simp only[Bool.and_eq_true,decide_eq_true_eq]at j;obtain⟨rfl,l⟩:=j;exact .of C (by simp only[execOp,t]) (q_un (A.arg l) D)
  grind|conv k x=>
  simp only[chkQ]at j;split at j;·rename_i s d E t;simp only[Bool.and_eq_true]at j;obtain⟨⟨l,B⟩,F⟩:=j;obtain⟨k0,l⟩:=Option.isSome_iff_exists.1 l;exact .of C (by simp only[execOp,t]) (q_conv l (tY B) (A.arg F) D)
  grind|runeStr x=>
  simp only[chkQ]at j;split at j;·rename_i s d E t;simp only[Bool.and_eq_true]at j;obtain⟨⟨l,B⟩,F⟩:=j;obtain⟨k0,l⟩:=Option.isSome_iff_exists.1 l;exact .of C (by simp only[execOp,t]) (Rv l B (A.arg F) D)
  grind|same x=>
  simp only[chkQ]at j;split at j;·rename_i s d E t;simp only[Bool.and_eq_true]at j;exact .of C (by simp only[execOp,t]) (q_same j.1.1 j.1.2 (A.arg j.2) D)
  grind|strOf x=>
  simp only[chkQ]at j;split at j
  ·rename_i s d E t;simp only[Bool.and_eq_true]at j;obtain⟨⟨l,B⟩,F⟩:=j;split at l;·rename_i e hs;exact .of C (by simp only[execOp,t]) (q_strOf C hs (tY l) B (A.arg F) D)
   grind
  grind|len s x=>
  simp only[chkQ]at j;split at j;·rename_i E T t;simp only[Bool.and_eq_true]at j;obtain⟨l,B⟩:=j;obtain⟨cs,L⟩:=dY (a:=a) t;simp only[evQ,Option.map_eq_some_iff]at D;obtain⟨n,hn,rfl⟩:=D;refine .of C (r:=Go.Builtin.len_ #[T] o.type #[a.eval E]) (by rw[L];rfl) ⟨_,q_len (t0:=o.type) C ?_ (A.arg B) hn,.p _ _ (.int _ _)⟩;grind
  grind|idx x i=>
  simp only[chkQ]at j;split at j;·rename_i T E i' t;simp only[Bool.and_eq_true]at j;exact .of C (by simp only[execOp,t]) (q_idx j.1.1 (A.arg j.1.2) (A.arg j.2) D)
  grind|aidx sz ag n x i=>
  simp only[chkQ]at j;split at j
  ·rename_i T E i' t;simp only[Bool.and_eq_true]at j;obtain⟨⟨l,B⟩,F⟩:=j;split at l;·rename_i n' e G;simp only[Bool.and_eq_true,beq_iff_eq]at l;obtain⟨⟨rfl,I⟩,O⟩:=l;exact .of C (by simp only[execOp,t]) (q_aidx G (oC I) (cr O) (A.arg B) (A.arg F) D)
   grind
  grind|fld off sz ag x=>
  simp only[chkQ]at j;split at j
  ·rename_i T E k t;simp only[Bool.and_eq_true]at j;obtain⟨l,B⟩:=j;split at l;·rename_i f Q;obtain⟨fs,G,Q⟩:=vg Q;simp only[Bool.and_eq_true,beq_iff_eq]at l;obtain⟨⟨ho,I⟩,O⟩:=l;exact .of C (by simp only[execOp,t]) (q_fld G Q ho (oC I) (cr O) (A.arg B) D)
   grind
  grind|faddr off x=>
  simp only[chkQ]at j;split at j
  ·rename_i T E k t;simp only[Bool.and_eq_true]at j;obtain⟨l,B⟩:=j;split at l;·rename_i f Q;obtain⟨fs,G,Q⟩:=vg Q;simp only[Bool.and_eq_true,beq_iff_eq]at l;exact .of C (by simp only[execOp,t]) (q_faddr G Q l.1 l.2 (A.arg B) D)
   grind
  grind|iaddr sz x i=>
  simp only[chkQ]at j;split at j
  ·rename_i T E i' t;simp only[Bool.and_eq_true,decide_eq_true_eq]at j;obtain⟨⟨⟨l,K⟩,B⟩,F⟩:=j;split at l;·rename_i e G;exact .of C (by simp only[execOp,t]) (q_iaddr K C G (cr l) (A.arg B) (A.arg F) D)
   grind
  grind|iaddrA sz n x i=>
  simp only[chkQ]at j;split at j
  ·rename_i T E i' t;simp only[Bool.and_eq_true]at j;obtain⟨⟨l,B⟩,F⟩:=j;split at l;·rename_i n' e G;simp only[Bool.and_eq_true,beq_iff_eq]at l;obtain⟨rfl,O⟩:=l;exact .of C (by simp only[execOp,t]) (q_iaddrA G (cr O) (A.arg B) (A.arg F) D)
   grind
  grind|load sz ag x=>
  simp only[chkQ]at j;split at j;·rename_i T E t;simp only[Bool.and_eq_true]at j;exact .of C (by simp only[execOp,t]) (PZ C (oC j.1.1) (cr j.1.2) (A.arg j.2) D)
  grind|wslice sz x lo hi=>
  simp only[chkQ]at j;split at j
  ·rename_i T E lo' V t;simp only[Bool.and_eq_true]at j;obtain⟨⟨⟨l,B⟩,F⟩,I⟩:=j;split at l
   ·rename_i e G;have hex:execOp a.eval o=(do pure (.value (<-Go.Instr.sliceAt T (a.eval E) (lo'.map a.eval) (V.map a.eval) none))):=by simp only[execOp,t];rfl
    exact .of C hex (q_wslice C G (cr l) (A.arg B) (A.opt F) (A.opt I) D)
   grind
  grind|lenk x k=>
  simp only[chkQ]at j;split at j;·rename_i E T t;simp only[Bool.and_eq_true]at j;obtain⟨l,B⟩:=j;obtain⟨cs,L⟩:=dY (a:=a) t;simp only[evQ]at D;obtain⟨n,hn,rfl⟩:=Option.map_eq_some_iff.1 (MD D);exact .of C (r:=Go.Builtin.len_ #[T] o.type #[a.eval E]) (by rw[L];rfl) ⟨_,q_len (t0:=o.type) (s:=false) C (by grind) (A.arg B) hn,.p _ _ (.int _ _)⟩
  grind|loadk sz ag x k=>
  simp only[chkQ]at j;split at j;·rename_i T E t;simp only[Bool.and_eq_true]at j;exact .of C (by simp only[execOp,t]) (PZ C (oC j.1.1) (cr j.1.2) (A.arg j.2) (Hm D))
  grind|sliceS x lo hi=>
  simp only[chkQ]at j;split at j;·rename_i T E lo' V t;simp only[Bool.and_eq_true]at j;obtain⟨⟨⟨l,B⟩,F⟩,I⟩:=j;exact .of C (by simp only[execOp,t];rfl) (q_sliceS l (A.arg B) (A.opt F) (A.opt I) D)
  grind|slice sz x lo hi=>
  simp only[chkQ]at j;split at j
  ·rename_i T E lo' V t;simp only[Bool.and_eq_true]at j;obtain⟨⟨⟨l,B⟩,F⟩,I⟩:=j;split at l;·rename_i e G;exact .of C (by simp only[execOp,t];rfl) (Ht G (cr l) (A.arg B) (A.opt F) (A.opt I) D)
   grind
  grind|build zero parts=>
  simp only[chkQ]at j;split at j
  ·rename_i T ps t;simp only[Bool.and_eq_true]at j;obtain⟨⟨l,B⟩,F⟩:=j;simp only[evQ,Option.map_eq_some_iff]at D;obtain⟨res,D,rfl⟩:=D;refine .of C (r:=Go.Instr.build T (ps.toList.map λx=>(x.1,a.eval x.2)).toArray) ?_ (q_build l B (A.parts F) D);simp only[execOp,t];have :(ps.toList.map λx=>(x.1,a.eval x.2)).toArray=ps.map λx=>(x.1,a.eval x.2):=by grind
   grind
  grind|bslice sz ag n zero parts=>
  simp only[chkQ]at j;split at j
  ·rename_i T n' ps t;simp only[Bool.and_eq_true,decide_eq_true_eq,beq_iff_eq,Bool.or_eq_true]at j;obtain⟨⟨⟨⟨⟨l,rfl⟩,K⟩,hag⟩,hn⟩,F⟩:=j;split at l
   ·rename_i e G;simp only[Bool.and_eq_true]at l;have M:ag=false->sz=1:=λe=>by grind
    obtain⟨us,I,O⟩:=q_bslice (N:=N) (μ:=μ) (H:=H) (parts:=ps.toList.map λx=>(x.1,a.eval x.2)) C.lt G (cr l.1) K M (by omega) l.2 (by have :=A.parts F;grind) D;refine⟨_,_,_,?_,.grow C (Grows.alloc w _) (λg h=>.inl h) (λg h=>?_) (λg h=>?_),O⟩
    ·have e1:(ps.toList.map λx=>(x.1,a.eval x.2)).toArray=ps.map λx=>(x.1,a.eval x.2):=by grind
     rw[e1]at I;simp only[execOp,t];simp[*]
    ·rcases h with h|h;·exact Nat.lt_of_lt_of_le (C.lt g h) (Grows.alloc w _).size
     simp[*]
    grind
   grind
  grind|appq sz x y=>
  simp only[chkQ]at j;split at j
  ·rename_i E y' T T' t;simp only[Bool.and_eq_true,decide_eq_true_eq,beq_iff_eq]at j;obtain⟨⟨⟨⟨rfl,l⟩,K⟩,B⟩,F⟩:=j;split at l
   ·rename_i e G;obtain⟨i,z,hi,X,hb,hz,hzs⟩:=oS l;obtain⟨cs,L⟩:=dY (a:=a) t;obtain⟨u,w',S',I,O,h6⟩:=q_appq (ty:=o.type) C (cZ G) hi hz X hzs K hb (A.arg B) (A.arg F) D;refine⟨u,w',S',?_,O,h6⟩;have e:execOp a.eval o=(do pure (.value (<-Builtin.append_ #[T',T'] o.type #[a.eval E,a.eval y']))):=by rw[L];rfl
    simp[e,I]
   grind
  grind|mget kd zero comma x k=>
  simp only[chkQ]at j;split at j
  ·rename_i T E k' c t;simp only[Bool.and_eq_true,beq_iff_eq]at j;obtain⟨⟨⟨l,rfl⟩,B⟩,F⟩:=j;split at l
   ·rename_i kt e G;simp only[Bool.and_eq_true]at l;obtain⟨l,I⟩:=l;split at l;·rename_i d hd;obtain⟨z,hz,hzr⟩:=OZ (N:=N) (w:=w) (S:=S) (μ:=μ) (H:=H) I;exact .of C (by simp only[execOp,t]) (q_mget C G (by rw[hd,ze l]) hz hzr (A.arg B) (A.arg F) D)
    grind
   grind
  grind|mlen x=>
  simp only[chkQ]at j;split at j;·rename_i E T t;simp only[Bool.and_eq_true]at j;obtain⟨⟨kt,e⟩,G⟩:=Option.isSome_iff_exists.1 j.1;obtain⟨cs,L⟩:=dY (a:=a) t;refine .of C (r:=Builtin.len_ #[T] o.type #[a.eval E]) ?_ (q_mlen C G (A.arg j.2) D);rw[L];rfl
  grind|isnil neg x y=>
  simp only[chkQ]at j;split at j;·rename_i op T E y' T' t;simp only[Bool.and_eq_true,decide_eq_true_eq]at j;obtain⟨⟨⟨K,l⟩,B⟩,F⟩:=j;obtain⟨e,G⟩:=Option.isSome_iff_exists.1 l;exact .of C (by simp only[execOp,t]) (q_isnil C K G (A.arg B) (A.arg F) D)
  grind|ext x i=>
  simp only[chkQ]at j;split at j;·rename_i E i' t;simp only[Bool.and_eq_true,beq_iff_eq]at j;obtain⟨rfl,B⟩:=j;exact .of C (by simp only[execOp,t]) (q_ext (A.arg B) D)
  grind|minmax mx xs=>
  simp only[chkQ]at j;split at j;·rename_i b xs' Ts t;simp only[Bool.and_eq_true,decide_eq_true_eq]at j;obtain⟨rfl,B⟩:=j;obtain⟨cs,L⟩:=dY (a:=a) t;have :=q_minmax (P:=P) (mx:=mx) (t0:=o.type) (ts:=Ts.toArray) (A.args B) D;refine .of C (r:=if mx then Go.Builtin.max_ Ts.toArray o.type (xs'.map a.eval).toArray else Go.Builtin.min_ Ts.toArray o.type (xs'.map a.eval).toArray) ?_ this;rw[L];cases mx<;>rfl
  grind|clos f caps=>
  simp only[chkQ]at j;split at j
  ·rename_i f' Y J t;simp only[Bool.and_eq_true,beq_iff_eq,List.isEmpty_iff]at j;obtain⟨⟨rfl,l⟩,B⟩:=j;have Q:Y=#[]:=by grind
   simp only[evQ,ifB]at D;split at D
   ·rename_i hall;simp only[Option.some.injEq]at D;subst D;have :=q_clos (f:=f) (A.args B) (λc j=>List.all_eq_true.1 hall c j);have e1:(J.toList.map a.eval).toArray=J.map a.eval:=by grind
    rw[e1]at this;refine .of C (r:=pure (.func (.func (N.fn f)) #[] (J.map a.eval))) ?_ ⟨_,by simp,this⟩;simp only[execOp,t,Q,Go.Instr.makeFunc];simp
   grind
  grind|call f args=>cases hq|callr f args=>cases hq|mkt sz ag zero n c=>
  simp only[chkQ]at j;split at j
  ·rename_i T n' c' t;simp only[Bool.and_eq_true,decide_eq_true_eq,beq_iff_eq,Bool.or_eq_true]at j;obtain⟨⟨⟨⟨⟨l,B⟩,F⟩,hag⟩,I⟩,O⟩:=j;split at l
   ·rename_i e G;simp only[Bool.and_eq_true]at l;obtain⟨i,z,hi,X,hb,_,_⟩:=oS l.1;have M:ag=false->sz=1:=λe=>by grind
    simp only[evQ]at D;obtain⟨xs,rfl,hv'⟩:=mkt_spec D;obtain⟨u,w',μ',q1,q2,q3,o',m,cp,rfl,hu⟩:=GM C G hi X l.2 B F M hb (A.arg I) (A.arg O) hv';have hbk:(H++[Blk.row false sz xs])[H.length]?=some (.row false sz xs):=by simp
    have e:u=μ' H.length:=q3.own_inv (r:=(sz,xs)) (by simp[rowOf]);refine⟨u,w.alloc o',λg=>S g\/g=w.heap.size,by simp[execOp,t,q1],.grow C (Grows.alloc w o') (λg h=>.inl h) (λg h=>?_) (λg h=>?_),.p _ _ ?_⟩
    ·rcases h with h|rfl;·have :=C.lt g h;simp;omega
     simp
    ·grind
    ·rw[e];refine pj q2.rel hbk (λg h=>.inl h) (λg hg=>.inr ?_);rw[<-e,hu]at hg;simp only[aO]at hg;grind
   grind
  grind|bad=>cases D
end
def chkX(P:Program)(N:Names)(o:Oper):XOp->Bool
 |.alloc zero=>match o.op with|.alloc T=>Bc P T zero|_=>false
 |.box x=>match o.op with|.box _ x'=>az N x' x|_=>false
 |.fbox x=>match o.op with|.box _ x'=>az N x' x|_=>false
 |.store sz x v=>match o.op with|.store T x' v'=>nz P T sz&&az N x' x&&az N v' v|_=>false
 |.mkslice sz ag zero n c=>match o.op with|.makeSlice T n' c'=>(match slT P T with|some e=>rowT P e sz&&Bc P e zero|none=>false)&&zero.length==sz&&decide (0<sz)&&(ag||sz==1)&&az N n' n&&az N c' c|_=>false
 |.newrow sz=>match o.op with|.assign (.const (.slice none 0 0))=>decide (0<sz)|_=>false
 |.append sz x y|.appt sz x y|.appk sz x y _=>match jY o with|some (.builtin .append,[x',y'],[T,T'])=>T'==T&&(match slT P T with|some e=>rowT P e sz|none=>false)&&decide (0<sz)&&az N x' x&&az N y' y|_=>false
 |.slicef sz x lo hi=>match o.op with|.slice T x' lo' hi' none=>(match slT P T with|some e=>nz P e sz|none=>false)&&az N x' x&&chkO N lo' lo&&chkO N hi' hi|_=>false
 |.copy sz x y=>match jY o with|some (.builtin .copy,[x',y'],[T,_])=>sz==1&&(match slT P T with|some e=>nz P e 1|none=>false)&&az N x' x&&az N y' y|_=>false
 |.appendS x y=>match jY o with|some (.builtin .append,[x',y'],[T,T'])=>(match slT P T with|some e=>rowT P e 1|none=>false)&&strT P T'&&az N x' x&&az N y' y|_=>false
 |.popf sz x hi=>match o.op with|.slice T x' none (some hi') none=>(match slT P T with|some e=>nz P e sz|none=>false)&&az N x' x&&az N hi' hi|_=>false
 |.storek sz x v _=>match o.op with|.store T x' v'=>nz P T sz&&az N x' x&&az N v' v|_=>false
 |.callk f args _=>match jY o with|some (.value f',xs',_)=>az N f' f&&nu N xs' args|_=>false
 |.range x=>match o.op with|.range T x'=>strT P T&&az N x' x|_=>false
 |.next x=>match o.op with|.next x' true=>az N x' x|_=>false
 |.pureq q=>chkQ P N o q|.treeq q=>q.plain&&chkQ P N o q|.brow sz ag n zero parts=>match o.op with|.buildSlice T n' ps=>(match slT P T with|some e=>nz P e sz&&uC P e (n*sz) zero|none=>false)&&n'==n&&decide (0<sz)&&(ag||sz==1)&&decide (n*sz<=16777216)&&nh N (λi=>some (i*sz,sz)) ps.toList parts|_=>false
 |.mkmap=>match o.op with|.makeMap _ none=>true|_=>false
 |.mset kd x k v=>match o.op with|.mapUpdate T x' k' v'=>(match mapT P T with|some (kt,_)=>(match P.underlying kt with|some d=>kdIs kd d|none=>false)|none=>false)&&az N x' x&&az N k' k&&az N v' v|_=>false
 |.msets ks x k v=>match o.op with|.mapUpdate T x' k' v'=>(match mapT P T with|some (kt,_)=>eqsT P kt ks|none=>false)&&az N x' x&&az N k' k&&az N v' v|_=>false
 |.mdel kd x k=>match jY o with|some (.builtin .delete,[x',k'],[T,_])=>(match mapT P T with|some (kt,_)=>(match P.underlying kt with|some d=>kdIs kd d|none=>false)|none=>false)&&az N x' x&&az N k' k|_=>false
 |.bytesOf x=>match o.op with|.convert s d x'=>strT P s&&(match slT P d with|some e=>Ue P e .u8|none=>false)&&az N x' x|_=>false
 |.callf f args|.callz f args|.calls f args|.callw f args|.callwr f args|.callwk f args _=>match jY o with|some (.value f',xs',_)=>az N f' f&&nu N xs' args|_=>false
 |.bslicef sz ag n zero parts|.bslk sz ag n zero parts _=>match o.op with|.buildSlice T n' ps=>(match slT P T with|some e=>nz P e sz&&uC P e (n*sz) zero|none=>false)&&n'==n&&decide (0<sz)&&(ag||sz==1)&&decide (n*sz<=16777216)&&nh N (λi=>some (i*sz,sz)) ps.toList parts|_=>false
def chkOp(P:Program)(N:Names)(o:Oper):QOp⊕XOp->Bool|.inl q=>chkQ P N o q|.inr x=>chkX P N o x
section


variable{Γ:Ctx}{N:Names}{P:Program}{w:World}{S:Nat->Prop}{μ:Nat->Value}{H:Heap}{σ:Nat->AV}{a:Act}
def Yield(r:Result Next)(u:Value)(w:World):Prop:=r=.ok (.value u) w\/(r=.ok .skip w/\u=undef)
def XDone(N:Names)(P:Program)(w:World)(S:Nat->Prop)(μ:Nat->Value)(H:Heap)(o:Oper)(a:Act)(v:AV)(H':Heap):Prop:=∃u w' S' μ',Yield ((execOp a.eval o).run P w) u w'/\Step N.fn w S μ H w' S' μ' H'/\RelV N.fn w' S' μ' H' v u
theorem XDone.of{o:Oper}{r:Sem Value}{v:AV}{d:Heap}(g:execOp a.eval o=(do pure (.value (<-r))))(h:∃u c b,r.run P w=.ok u c/\Step N.fn w S μ H c S b d/\RelV N.fn c S b d v u):XDone N P w S μ H o a v d:=by let⟨u,c,b,i,f,e⟩:=h;exact⟨u,c,S,b,.inl (by simp[*]),f,e⟩
def XOp.known:XOp->Bool|.callf _ _|.calls _ _|.callz _ _|.callw _ _|.callwr _ _|.callwk _ _ _|.callk _ _ _|.appt _ _ _|.appk _ _ _ _|.bslk _ _ _ _ _ _|.bslicef _ _ _ _ _|.fbox _|.pureq _|.treeq _=>false|_=>true
theorem Ih{o:Oper}{x:XOp}{v:AV}{H':Heap}{cal:Nat->List AV->Heap->Option (List AV×Heap)}(E:x.known=true)(b:chkX P N o x=true)(m:Env.Rel Γ N w S μ H σ a)(D:Rel N.fn w S μ H)(j:evX Γ cal σ H x=some (v,H')):XDone N P w S μ H o a v H':=by cases x with
 |alloc zero=>
  simp[chkX]at b;simp[evX,]at j;obtain⟨rfl,rfl⟩:=j;split at b;·rename_i T l;exact .of (by simp[execOp,l]) (x_alloc D b)
  grind|box x=>
  simp[chkX]at b;split at b;·rename_i T A l;exact .of (r:=Go.Instr.box T (a.eval A)) (by simp[execOp,l]) (x_box D (m.arg b) j)
  grind|store sz x y=>
  simp[chkX]at b;simp only[evX,Option.map_eq_some_iff,Prod.mk.injEq]at j;obtain⟨Z,j,rfl,rfl⟩:=j;split at b;·rename_i T A Q l;simp[Bool.and_eq_true]at b;let⟨t,g,h,p⟩:=QB D (cr b.1.1) (m.arg b.1.2) (m.arg b.2) j;exact⟨undef,t,S,g,.inr ⟨by simp[execOp,l,h],rfl⟩,p,.nov⟩
  grind|mkslice sz ag zero n c=>
  simp[chkX]at b;split at b
  ·rename_i T n' c' l;simp[Bool.and_eq_true,decide_eq_true_eq,beq_iff_eq,Bool.or_eq_true]at b;let⟨⟨⟨⟨⟨h,p⟩,C⟩,hag⟩,G⟩,L⟩:=b;split at h
   ·rename_i e B;simp[Bool.and_eq_true]at h;let⟨i,z,hi,I,X,_,_⟩:=oS h.1;have J:ag=false->sz=1:=λe=>by grind
    let⟨u,t,g,q1,q2,q3,_⟩:=GM D B hi I h.2 p C J X (m.arg G) (m.arg L) j;exact .of (by simp only[execOp,l]) ⟨u,t,g,q1,q2,q3⟩
   grind
  grind|brow sz ag n zero parts=>
  simp only[chkX]at b;split at b
  ·rename_i T n' ps l;simp only[Bool.and_eq_true,decide_eq_true_eq,beq_iff_eq,Bool.or_eq_true]at b;obtain⟨⟨⟨⟨⟨h,rfl⟩,W⟩,hag⟩,hn⟩,C⟩:=b;split at h
   ·rename_i e B;simp only[Bool.and_eq_true]at h;have J:ag=false->sz=1:=λe=>by grind
    obtain⟨u,t,g,G,L,F⟩:=x_brow (N:=N) (μ:=μ) (H:=H) (parts:=ps.toList.map λx=>(x.1,a.eval x.2)) D B (cr h.1) W J (by omega) h.2 (by have :=m.parts C;grind) j;refine⟨u,t,S,g,.inl ?_,L,F⟩;have e1:(ps.toList.map λx=>(x.1,a.eval x.2)).toArray=ps.map λx=>(x.1,a.eval x.2):=by grind
    rw[e1]at G;simp only[execOp,l];simp[*]
   grind
  grind|mkmap=>
  simp only[chkX]at b;simp only[evX,Option.some.injEq,Prod.mk.injEq]at j;obtain⟨rfl,rfl⟩:=j;split at b;·rename_i T l;exact .of (by simp only[execOp,l];rfl) (x_mkmap (T:=T) D)
  grind|mset kd x k v=>
  simp only[chkX]at b;simp only[evX,Option.map_eq_some_iff,Prod.mk.injEq]at j;obtain⟨Z,j,rfl,rfl⟩:=j;split at b
  ·rename_i T A k' V l;simp only[Bool.and_eq_true]at b;obtain⟨⟨⟨h,p⟩,C⟩,G⟩:=b;split at h
   ·rename_i kt e B;split at h;·rename_i d hd;obtain⟨t,g,L,F⟩:=x_mset D B (by rw[hd,ze h]) (m.arg p) (m.arg C) (m.arg G) j;refine⟨undef,t,S,g,.inr ⟨?_,rfl⟩,F,.nov⟩;simp only[execOp,l];simp[*]
    grind
   grind
  grind|msets Y x k v=>
  simp only[chkX]at b;simp only[evX,Option.map_eq_some_iff,Prod.mk.injEq]at j;obtain⟨Z,j,rfl,rfl⟩:=j;split at b
  ·rename_i T A k' V l;simp only[Bool.and_eq_true]at b;obtain⟨⟨⟨h,p⟩,C⟩,G⟩:=b;split at h;·rename_i kt e B;obtain⟨t,g,L,F⟩:=x_msets D B h (m.arg p) (m.arg C) (m.arg G) j;refine⟨undef,t,S,g,.inr ⟨?_,rfl⟩,F,.nov⟩;simp only[execOp,l];simp[*]
   grind
  grind|mdel kd x k=>
  simp only[chkX]at b;simp only[evX,Option.map_eq_some_iff,Prod.mk.injEq]at j;obtain⟨Z,j,rfl,rfl⟩:=j;split at b
  ·rename_i A k' T K l;simp only[Bool.and_eq_true]at b;obtain⟨⟨h,p⟩,C⟩:=b;split at h
   ·rename_i kt e B;split at h
    ·rename_i d hd;obtain⟨t,g,L,F⟩:=x_mdel (ts:=#[T,K]) (t0:=o.type) D B (by rw[hd,ze h]) (m.arg p) (m.arg C) rfl j;obtain⟨cs,R⟩:=dY (a:=a) l;refine⟨.tuple #[],t,S,g,.inl ?_,F,.any _⟩;have e1:execOp a.eval o=(do pure (.value (<-Builtin.delete_ #[T,K] o.type #[a.eval A,a.eval k']))):=by rw[R];rfl
     simp[e1,L]
    grind
   grind
  grind|newrow sz=>
  simp only[chkX]at b;simp only[evX,Option.some.injEq,Prod.mk.injEq]at j;obtain⟨rfl,rfl⟩:=j;split at b;·rename_i l;obtain⟨g,h,p⟩:=x_newrow D (of_decide_eq_true b);exact⟨_,w,S,g,.inl (by simp[execOp,l];rfl),h,p⟩
  grind|append sz x y=>
  simp only[chkX]at b;split at b
  ·rename_i A Q T K l;simp only[Bool.and_eq_true,decide_eq_true_eq,beq_iff_eq]at b;obtain⟨⟨⟨⟨rfl,h⟩,W⟩,p⟩,C⟩:=b;split at h;·rename_i e B;obtain⟨i,z,hi,I,X,hz,O⟩:=oS h;obtain⟨cs,R⟩:=dY (a:=a) l;simp only[evX,Option.bind_eq_some_iff]at j;obtain⟨ys,U,j⟩:=j;obtain⟨news,G,L⟩:=rO D W (m.arg C) U;obtain⟨V,t,g,F⟩:=Ro (ty:=o.type) D (cZ B) hi hz I O W X (m.arg p) G L j;refine .of (r:=Builtin.append_ #[K,K] o.type #[a.eval A,a.eval Q]) (by rw[R];rfl) ⟨V,t,g,F⟩
   grind
  grind|range x=>
  simp only[chkX]at b;split at b;·rename_i T A l;simp only[Bool.and_eq_true]at b;exact .of (by simp only[execOp,l]) (x_range D b.1 (m.arg b.2) j)
  grind|next x=>
  simp only[chkX]at b;split at b;·rename_i A l;exact .of (r:=Go.Instr.next (a.eval A) true o.type) (by simp only[execOp,l]) (x_next D (m.arg b) j)
  grind|appendS x y=>
  simp only[chkX]at b;split at b
  ·rename_i A Q T K l;simp only[Bool.and_eq_true]at b;obtain⟨⟨⟨h,W⟩,p⟩,C⟩:=b;split at h;·rename_i e B;obtain⟨i,z,hi,I,X,hz,O⟩:=oS h;obtain⟨cs,R⟩:=dY (a:=a) l;obtain⟨V,t,g,F⟩:=Qo (ty:=o.type) D (cZ B) (gT W) hi hz I O X (m.arg p) (m.arg C) j;refine .of (r:=Builtin.append_ #[T,K] o.type #[a.eval A,a.eval Q]) (by rw[R];rfl) ⟨V,t,g,F⟩
   grind
  grind|copy sz x y=>
  simp only[chkX]at b;split at b
  ·rename_i A Q T K l;simp only[Bool.and_eq_true,beq_iff_eq]at b;obtain⟨⟨⟨rfl,h⟩,p⟩,C⟩:=b;split at h;·rename_i e B;obtain⟨cs,R⟩:=dY (a:=a) l;simp only[evX,Option.bind_eq_some_iff]at j;obtain⟨ys,U,j⟩:=j;obtain⟨V,t,g,F⟩:=x_copy (P:=P) (T':=K) (ty:=o.type) D B (cr h) (m.arg p) (m.arg C) U j;refine .of (r:=Builtin.copy_ #[T,K] o.type #[a.eval A,a.eval Q]) (by rw[R];rfl) ⟨V,t,g,F⟩
   grind
  grind|bytesOf x=>
  simp only[chkX]at b;split at b
  ·rename_i s d A l;simp only[Bool.and_eq_true]at b;obtain⟨⟨h,p⟩,C⟩:=b;split at p;·rename_i e B;exact .of (by simp only[execOp,l]) (Qu D h B (ow (tY p)) (m.arg C) j)
   grind
  grind|slicef sz x lo hi=>
  simp only[chkX]at b;split at b
  ·rename_i T A lo' M l;simp only[Bool.and_eq_true]at b;obtain⟨⟨⟨h,p⟩,C⟩,G⟩:=b;split at h
   ·rename_i e B;obtain⟨u,t,S',g,g1,g2,g3⟩:=x_slicef D B (cr h) (m.arg p) (m.opt C) (m.opt G) j;have hex:execOp a.eval o=(do pure (.value (<-Go.Instr.sliceAt T (a.eval A) (lo'.map a.eval) (M.map a.eval) none))):=by simp only[execOp,l];rfl
    exact⟨u,t,S',g,.inl (by simp[*]),g2,g3⟩
   grind
  grind|popf sz x hi=>
  simp only[chkX]at b;split at b
  ·rename_i T A M l;simp only[Bool.and_eq_true]at b;obtain⟨⟨h,p⟩,C⟩:=b;split at h
   ·rename_i e B;obtain⟨u,t,S',g,g1,g2,g3⟩:=x_pop D B (cr h) (m.arg p) (m.arg C) j;have hex:execOp a.eval o=(do pure (.value (<-Go.Instr.sliceAt T (a.eval A) none (some (a.eval M)) none))):=by simp only[execOp,l];rfl
    exact⟨u,t,S',g,.inl (by simp[*]),g2,g3⟩
   grind
  grind|storek sz x y Y=>
  simp only[chkX]at b;simp only[evX,ui,Option.map_eq_some_iff,ifB_some,Prod.mk.injEq]at j;obtain⟨Z,⟨_,j⟩,rfl,rfl⟩:=j;split at b;·rename_i T A Q l;simp only[Bool.and_eq_true]at b;obtain⟨t,g,h,p⟩:=QB D (cr b.1.1) (m.arg b.1.2) (m.arg b.2) j;exact⟨undef,t,S,g,.inr ⟨by simp[execOp,l,h],rfl⟩,p,.nov⟩
  grind|callk f args Y=>cases E|callw f args=>cases E|callwk f args Y=>cases E|callwr f args=>cases E|appt sz x y=>cases E|appk sz x y Y=>cases E|bslk sz ag n zero parts Y=>cases E|callf f args=>cases E|calls f args=>cases E|callz f args=>cases E|pureq q=>cases E|treeq q=>cases E|bslicef sz ag n zero parts=>cases E|fbox x=>cases E
end
end Ab
