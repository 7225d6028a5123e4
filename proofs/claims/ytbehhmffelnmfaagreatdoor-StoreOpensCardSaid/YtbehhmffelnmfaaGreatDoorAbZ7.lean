import Derived.Test.YtbehhmffelnmfaaGreatDoorAbZ6
import Derived.Test.YtbehhmffelnmfaaGreatDoorAbDrawn
import Derived.RangeFuncNested
import Derived.RangeFuncLeaves
import Derived.Maps.Keyed
import Derived.Shelf.SlSortCmp.NoneTotal
set_option linter.all false
namespace Ab
open Go (IntKind BinOp UnOp World Value Addr Obj undef maxLen Program TypeId Oper Op Operand Act Sem Next Result execOp Builtin Calls Ending Exit MapEntry DataW MemPlace Lit keyOf)
open Go.RowKit Go.Maps Go.Sort Go.Proofs
open Go (WideAt.sameKey_self)
structure HitT where
 s:List UInt8
 l:Bool deriving DecidableEq,Inhabited
def HitT.p(h:HitT):List UInt8×Bool:=(h.s,h.l)
def encH(h:HitT):Value:=.agg #[.string ⟨h.s.toArray⟩,.bool h.l]
abbrev jN(h:HitT):List Value:=[.string ⟨h.s.toArray⟩,.bool h.l]
theorem Ms{a b:HitT}(h:encH a=encH b):a=b:=by let⟨g,d⟩:=a;let⟨f,c⟩:=b;simp[encH]at h;grind
structure HitKey(P:Program)(k:TypeId):Prop where
 keyed:Keyed P k
 inv:∀key kl,keyOf P k key=some kl->∃x,key=encH x
 reads:∀h:HitT,h.s.length<=maxLen->∃l,keyOf P k (encH h)=some l
theorem Tt{P:Program}{k s b:TypeId}{m j:Go.Field}(K:Keyed P k)(i:P.underlying k=some (.struct #[m,j]))(C:(m.name != "_")=true)(D:(j.name != "_")=true)(H:m.type=s)(L:m.offset=0)(J:j.type=b)(B:j.offset=1)(N:P.underlying s=some .string)(M:P.underlying b=some .bool)(t:P.cellsOf k=2)(r:P.cellsOf s=1)(q:P.cellsOf b=1)(p:P.keyType k=true)(A:0<P.types.size):HitKey P k:=by
 let⟨d,G⟩:∃d,P.types.size=d+1:=⟨P.types.size-1,by omega⟩;have n:(#[m,j]:Array Go.Field).all (λf=>f.name != "_")=true:=by grind
 have o:∀a c,P.keyLits (P.types.size+1) k [a,c]=(P.keyLits (d+1) s [a]).bind λx=>(P.keyLits (d+1) b [c]).map λy=>x++y:=by
  intro a c;rw[G];conv=>lhs;unfold Program.keyLits
  rw[i];simp only[t,n,List.mapM_cons,H,L,J,B,r,q];simp[List.take,List.drop];cases P.keyLits (d+1) s [a]with|none=>rfl|some x=>cases P.keyLits (d+1) b [c]<;>simp
 have u:∀a,P.keyLits (d+1) s [a]=match a with|.string z=>if z.size<=maxLen then some [.string z.data.toList]else none|_=>none:=by intro a;unfold Program.keyLits;grind
 have w:∀a,P.keyLits (d+1) b [a]=match a with|.bool z=>some [.bool z]|_=>none:=by intro a;unfold Program.keyLits;grind
 refine⟨K,λv O h=>?_,λh Q=>?_⟩
 ·unfold keyOf at h;rw[i]at h;simp only[p,Bool.true_and]at h;split at h
  ·rename_i e;obtain⟨I,g,rfl⟩:=Option.map_eq_some_iff.1 h;cases v<;>simp[Value.formed,i,Bool.false_eq_true]at e;rename_i cs;simp[t,beq_iff_eq]at e;obtain⟨a,c,rfl⟩:∃a c,cs=#[a,c]:=by let⟨l⟩:=cs;match l,e with|[a,c],_=>simp
   replace g:P.keyLits (P.types.size+1) k [a,c]=some I:=g;rw[o,u,w]at g;cases a<;>simp[Option.bind_none,reduceCtorEq]at g;rename_i z;by_cases E:z.size<=maxLen;·simp only[E,if_true,Option.bind_some]at g;cases c<;>simp[Option.map_none,reduceCtorEq]at g;rename_i F;exact⟨⟨z.data.toList,F⟩,by rfl⟩
   grind
  grind
 ·unfold keyOf;rw[i];have g:P.keyLits (P.types.size+1) k [.string ⟨h.s.toArray⟩,.bool h.l]=some ([.string h.s]++[.bool h.l]):=by
   rw[o,u,w];have :(⟨h.s.toArray⟩:ByteArray).size<=maxLen:=by show h.s.toArray.size<=maxLen;grind
   grind
  have e:(encH h).formed P k=true:=by simp[encH,Value.formed,i,t]
  have S:P.keyLits (P.types.size+1) k (encH h).cells.toList=some ([.string h.s]++[.bool h.l]):=g;simp_all
structure CollH(P:Program)(k:TypeId)(D0:DataW Unit)(left:Lit->Bool)(hs:List HitT):Prop where
 nodup:hs.Nodup
 mem:∀x l,keyOf P k (encH x)=some l->(x∈hs↔has D0 l=true/\left l=false)reads:∀x∈hs,∃l,keyOf P k (encH x)=some l
theorem CollH.start{P:Program}{k:TypeId}(a:DataW Unit):CollH P k a (has a) []:=⟨List.nodup_nil,λx l _=>by simp,by simp⟩
theorem CollH.step{P:Program}{k:TypeId}{m:DataW Unit}{c:Lit->Bool}{g:List HitT}(K:HitKey P k)(h:CollH P k m c g){x:HitT}{f:Lit}{y:DataW Unit}(j:keyOf P k (encH x)=some f)(s:c f=true)(n:∀r,m.atKey f r=y):CollH P k m (λz=>c z&&!z.sameKey f) (g++[x]):=by
 have i:=has_true_of_atKey n;have q:x∉g:=λt=>by have :=((h.mem x f j).1 t).2;grind
 refine⟨List.nodup_append.2 ⟨h.nodup,by simp,λa v b u=>by grind⟩,λz l d=>?_,λz d=>?_⟩
 ·by_cases e:z=x;·subst e;rw[j]at d;cases d;simp[i,Go.WideAt.sameKey_self (K.keyed.key j)]
  ·have o:l.sameKey f=false:=by
    cases g:l.sameKey f;·rfl
    ·have :=Go.WideAt.sameKey_eq g;subst this;exact absurd (Ms (K.keyed.inj d j)) e
   simp[h.mem z l d,e,o]
 ·rcases List.mem_append.1 d with d|d;·exact h.reads z d
  grind
def qU(P:Program)(k:TypeId)(D0:DataW Unit)(hs:List HitT):Prop:=hs.Nodup/\(∀x l,keyOf P k (encH x)=some l->(x∈hs↔has D0 l=true))/\∀x∈hs,∃l,keyOf P k (encH x)=some l
theorem CollH.all{P:Program}{k:TypeId}{b:DataW Unit}{a:Lit->Bool}{c:List HitT}(h:CollH P k b a c)(d:∀l,a l=false):qU P k b c:=⟨h.nodup,λx l e=>by rw[h.mem x l e,d];simp,h.reads⟩
theorem CN(W:World)(x y:Value)(t:TypeId):∀(j:Nat)(u:Value),[x,y][j]?=some u->(W.alloc (.cells #[x,y] t)).cell? ((⟨W.heap.size,0,none⟩:Addr).add j)=some u:=by intro j u h;match j,h with
 |0,h=>simp at h;subst h;show(W.alloc _).cell? ⟨W.heap.size,0,none⟩=_;simp|1,h=>simp at h;subst h;show(W.alloc _).cell? ⟨W.heap.size,1,none⟩=_;simp|j+2,h=>grind
theorem partsLess_iff:∀{a b:List (List UInt8)},aV a b=true↔a<b
 |_,[]=>by simp[aV,]|[],b::y=>by simp[aV,]|a::x,b::y=>by rw[List.cons_lt_cons_iff,<-partsLess_iff,<-less_iff];simp[aV]
def Hx:List (List UInt8)->List UInt8|[]=>[]|[p]=>p|p::q::r=>p++46::Hx (q::r)
theorem Im(a s:List UInt8):∃p q,bp a s=p::q:=by induction s generalizing a with|nil=>exact⟨_,_,rfl⟩|cons c r d=>unfold bp;split;all_goals simp[*]
theorem xj(a s:List UInt8):Hx (bp a s)=a.reverse++s:=by induction s generalizing a with|nil=>simp[bp,Hx]|cons c r f=>
  unfold bp;split;·rename_i e;let⟨p,q,b⟩:=Im [] r;have :=f [];rw[b]at this;rw[b];simp only[Hx,this,e];simp
  grind
theorem Fz{x y:List UInt8}(h:bp [] x=bp [] y):x=y:=by have :=congrArg Hx h;simpa[xj]using this
abbrev cfT(a b:HitT):Int:=cmpH a.p b.p
theorem ltT{a b:HitT}:ltOf cfT a b=true↔bp [] a.s<bp [] b.s\/(bp [] a.s=bp [] b.s/\a.l=false/\b.l=true):=by
 let⟨a,i⟩:=a;let⟨b,lb⟩:=b;unfold ltOf cfT cmpH HitT.p;rw[decide_eq_true_iff];simp;split;·rename_i h;have :=partsLess_iff.1 h;grind
 ·rename_i f;split;·rename_i h;have c:=partsLess_iff.1 h;grind
  ·rename_i c;have e:=λh=>f (partsLess_iff.2 h);have g:=λh=>c (partsLess_iff.2 h);grind
theorem mD(a:HitT):ltOf cfT a a=false:=by
 cases h:ltOf cfT a a;·rfl
 ·rcases ltT.1 h with h|⟨_,c,d⟩;all_goals grind
theorem mA{a b c:HitT}(e:ltOf cfT a b=true)(f:ltOf cfT b c=true):ltOf cfT a c=true:=by rw[ltT]at*;grind
theorem zk{a b:HitT}(d:ltOf cfT a b=false)(c:ltOf cfT b a=false):a=b:=by
 have d:¬_:=λh=>by rw[ltT.2 h]at d;cases d
 have c:¬_:=λh=>by rw[ltT.2 h]at c;cases c
 have e:=List.le_antisymm (λh=>c (.inl h)) (λh=>d (.inl h));let⟨a,f⟩:=a;let⟨b,lb⟩:=b;simp only at e d c;have :=Fz e;grind
theorem swoT:SWO (ltOf cfT)where
 irrefl:=mD;trans _ _ _:=mA;ntrans x y z b c:=by
  cases h:ltOf cfT x z;·rfl
  ·by_cases e:ltOf cfT y x=true;·exact absurd (mA e h) (by grind)
   ·have :=zk b (by grind);grind
theorem dN(a b:HitT):ew a.p b.p=ltOf cfT a b:=by rw[Bool.eq_iff_iff,ltT];let⟨a,d⟩:=a;let⟨b,lb⟩:=b;simp[ew,HitT.p,partsLess_iff,]
theorem xf(s:List UInt8×Bool):∀l,(insH s l).Perm (s::l)
 |[]=>.refl _|t::r=>by
  unfold insH;split;·exact((xf s r).cons t).trans (.swap s t r)
  rfl
theorem pK:∀l,(Cr l).Perm l|[]=>.refl _|s::r=>(xf s _).trans ((pK r).cons s)
def unp(h:List UInt8×Bool):HitT:=⟨h.1,h.2⟩
theorem p_unp(h:List UInt8×Bool):(unp h).p=h:=rfl
def leH(a b:List UInt8×Bool):Prop:=ew b a=false
theorem FK{a b:List UInt8×Bool}(h:ew a b=true):leH a b:=by
 unfold leH;cases e:ew b a;·rfl
 ·have d:ltOf cfT (unp a) (unp b)=true:=by rw[<-dN];exact h
  have c:ltOf cfT (unp b) (unp a)=true:=by rw[<-dN];exact e
  exact absurd (mA d c) (by rw[mD];simp)
theorem SO{a b c:List UInt8×Bool}(e:leH a b)(f:leH b c):leH a c:=by
 have e:ltOf cfT (unp b) (unp a)=false:=by rw[<-dN];exact e
 have f:ltOf cfT (unp c) (unp b)=false:=by rw[<-dN];exact f
 have :=swoT.ntrans _ _ _ f e;rw[<-dN]at this;exact this
theorem ox{a b:List UInt8×Bool}(d:leH a b)(c:leH b a):a=b:=by
 have d:ltOf cfT (unp b) (unp a)=false:=by rw[<-dN];exact d
 have c:ltOf cfT (unp a) (unp b)=false:=by rw[<-dN];exact c
 exact congrArg HitT.p (zk c d)
theorem xF(s:List UInt8×Bool):∀{l:List (List UInt8×Bool)},l.Pairwise leH->(insH s l).Pairwise leH
 |[],_=>by simp[insH]|t::r,h=>by
  let⟨e,f⟩:=List.pairwise_cons.1 h;unfold insH;split
  ·rename_i c;refine List.pairwise_cons.2 ⟨λx a=>?_,xF s f⟩;rcases List.mem_cons.1 ((xf s r).mem_iff.1 a)with rfl|a;·exact FK c
   grind
  ·rename_i c;have b:leH s t:=by simpa[leH]using c
   refine List.pairwise_cons.2 ⟨λx a=>?_,h⟩;rcases List.mem_cons.1 a with rfl|a;·grind
   ·exact SO b (e x a)
theorem oY:∀l:List (List UInt8×Bool),(Cr l).Pairwise leH|[]=>.nil|s::r=>xF s (oY r)
def tA(hs:List HitT):List HitT:=hs.mergeSort λx y=>!(ltOf cfT) y x
theorem sortT_eq{f:List HitT}{g:List (List UInt8×Bool)}(k:(f.map HitT.p).Perm g):(tA f).map HitT.p=Cr g:=by
 have j:(tA f).Pairwise λa b=>(!(ltOf cfT) b a)=true:=List.pairwise_mergeSort (λa b c j i=>by simp[]at*;exact swoT.ntrans _ _ _ i j) (λa b=>by
   cases h:ltOf cfT b a;·simp
   ·have :ltOf cfT a b=false:=by
     cases e:ltOf cfT a b;·rfl
     ·exact absurd (mA h e) (by rw[mD];simp)
    grind) f;have i:((tA f).map HitT.p).Pairwise leH:=by rw[List.pairwise_map];refine j.imp λ{a b}h=>?_;unfold leH;rw[dN];grind
 refine List.Perm.eq_of_pairwise (le:=leH) (λa b _ _=>ox) i (oY g) ?_;exact((List.mergeSort_perm f _).map _).trans (k.trans (pK g).symm)
theorem qO{b:Type}{enc:b->List Value}(a:∀x,(enc x).length=2):∀{l:List b}{t:Nat},(l.flatMap enc)[t]?=(l[t/2]?).bind λx=>(enc x)[t%2]?
 |[],t=>by simp|x::r,t=>by
  rw[List.flatMap_cons];by_cases h:t<2;·grind
  ·rw[List.getElem?_append_right (by grind),a,qO a,show t/2=(t-2)/2+1 by omega,show t%2=(t-2)%2 by omega];rfl
theorem qT{b:Type}{enc:b->List Value}(a:∀x,(enc x).length=2):∀(l:List b),(l.flatMap enc).length=l.length*2|[]=>rfl|x::r=>by rw[List.flatMap_cons,List.length_append,a,qT a r,List.length_cons];omega
theorem vi{a:Type}[Inhabited a]{enc:a->List Value}(c:∀x,(enc x).length=2)(l:List a):(flatK enc 2 l.toArray).toList=l.flatMap enc:=by
 apply List.ext_getElem?;intro t;by_cases e:t<l.length*2
 ·have d:t/2<l.length:=by omega
  have b:=get_flatK enc 2 l.toArray t (by grind);rw[getElem!_pos _ _ (by simp[*])]at b;rw[Array.getElem?_toList,Array.getElem?_eq_getElem (by grind),b,qO c,List.getElem?_eq_getElem d];grind
 ·rw[List.getElem?_eq_none (by simp_all),List.getElem?_eq_none (by rw[qT c];omega)]
theorem TM{b:Type}[Inhabited b]{enc:b->List Value}(f:∀x,(enc x).length=2){w:World}{g:Nat}{a:Array Value}{e:TypeId}{l:List b}(h:w.heap[g]?=some (.cells a e (0,0)))(m:a.toList.take (l.length*2)=l.flatMap enc):HoldsK enc 2 w g 0 l.toArray:=by
 intro j k;have c:j<l.length*2:=by simp_all
 refine⟨?_,by simp[World.frozen?,h]⟩;have d:(a.toList.take (l.length*2))[j]?=(l.flatMap enc)[j]?:=by grind
 rw[List.getElem?_take_of_lt c,<-vi f]at d;simp[World.cell?,];grind
theorem EG{b:Type}[Inhabited b]{enc:b->List Value}{w:World}{g n:Nat}{h:Array Obj}{a:Array Value}{e:TypeId}{c:Nat×Nat}(d:Array b)(f:w.heap[g]?=some (.cells a e c)):(sortWorldK enc 2 w g 0 n d h).heap[g]?=some (.cells (putCells id 0 (flatK enc 2 d) a) e c):=by simp[sortWorldK,grow,putRowK,putRow,mapBlock,];rw[Array.getElem?_append_left (by grind)];simp[Array.getElem?_modify,f,onCells]
theorem si{a:Type}[Inhabited a]{enc:a->List Value}{w:World}{g n b:Nat}{c:Array Obj}(d:Array a)(f:b<=g)(h:b<=w.heap.size):Below b w (sortWorldK enc 2 w g 0 n d c):=by refine⟨rfl,rfl,rfl,by simp[sortWorldK,putRowK,],λk e=>?_⟩;simp[sortWorldK,grow,putRowK,putRow,mapBlock,];grind
theorem Rf{b:Type}[Inhabited b]{enc:b->List Value}(d:∀x,(enc x).length=2)(a:Array Value)(l:List b)(h:l.length*2<=a.size):(putCells id 0 (flatK enc 2 l.toArray) a).toList.take (l.length*2)=l.flatMap enc:=by
 rw[<-vi d];apply List.ext_getElem?;intro j;by_cases c:j<l.length*2
 ·rw[List.getElem?_take_of_lt c,Array.getElem?_toList,Array.getElem?_toList];have e:j<(flatK enc 2 l.toArray).size:=by simp[*]
  simp[putCells,];grind
 ·rw[List.getElem?_take_eq_none (by omega),List.getElem?_eq_none (by simp_all)]
structure SortsH(P:Program)(fs c:Nat):Prop where
 none:∀p cap fv w,Calls P fs #[.slice p 0 cap,fv] w λe w'=>e=.returned (.tuple #[])/\w'=w
 some:∀(α:Type)[Inhabited α](enc:α->List Value),(∀x,(enc x).length=2)->(∀x,∀v∈enc x,v.oneCell'=true)->∀(cf:α->α->Int),SWO (ltOf cf)->∀(blk cap:Nat)(d:Array α)(w:World),CmpLays P c #[] enc 2 cf blk 0 d.size w->HoldsK enc 2 w blk 0 d->blk<w.heap.size->d.size<4611686018427387904->(∀x y,(ltOf cf) x y=false->(ltOf cf) y x=false->x=y)->Calls P fs #[.slice (Option.some ⟨blk,0,Option.none⟩) d.size cap,.func (.func c) #[] #[]] w λe w'=>e=.returned (.tuple #[])/\∃n os,w'=sortWorldK enc 2 w blk 0 n (d.toList.mergeSort λx y=>!(ltOf cf) y x).toArray os
abbrev CmpsH(P:Program)(c:Nat)(hs:List HitT)(n:Nat)(w:World):Prop:=∀x∈hs,∀y∈hs,∀W,Below n w W->Calls P c #[encH x,encH y] W λe w'=>e=.returned (.int .i64 (cfT x y))/\∃q os',w'=grow (W.drewN q) os'
theorem sorted_at{P:Program}{N c:Nat}(h:SortsH P N c){k:TypeId}{d:List HitT}{W:World}{t cap n:Nat}{g:Array Value}(o:W.heap[t]?=some (.cells g k (0,0)))(J:n<=t)(F:d.length<=cap)(H:cap<=maxLen)(G:g.size=cap*2)(Y:g.toList.take (d.length*2)=d.flatMap jN)(A:CmpsH P c d n W)(w:d≠[])(O:d.length<=lim):Calls P N #[.slice (some ⟨t,0,none⟩) d.length cap,.func (.func c) #[] #[]] W λe D=>e=.returned (.tuple #[])/\D.ownsRow n k 2 (.slice (some ⟨t,0,none⟩) d.length cap) d.length ((tA d).flatMap jN)/\Below n W D:=by
 have V:=(Array.getElem?_eq_some_iff.1 o).1;let i:={x:HitT//x∈d};have X:Inhabited i:=⟨⟨d.head w,List.head_mem w⟩⟩;let enc:i->List Value:=λx=>jN x.1;let C:i->i->Int:=λx y=>cfT x.1 y.1;have E:∀x:i,(enc x).length=2:=λ_=>rfl;have U:∀l:List i,l.flatMap enc=(l.map (·.1)).flatMap jN:=λl=>by rw[List.flatMap_map]
 have S:=List.attach_map_subtype_val d;have M:d.attach.toArray.size=d.length:=by simp
 have j:=h.some i enc E (λx v K=>by simp[enc,]at K;rcases K with rfl|rfl<;>rfl) C ⟨λx=>mD x.1,λx y z u B=>mA u B,λx y z u B=>swoT.ntrans x.1 y.1 z.1 u B⟩ t cap d.attach.toArray W (λm T R Q x y=>A x.1 x.2 y.1 y.2 _ (si R J (by omega))) (TM E o (by grind)) V (by rw[M];unfold lim at O;omega) (λx y u B=>Subtype.ext (zk u B));rw[M]at j;refine j.mono ?_;rintro e D⟨rfl,q,T,rfl⟩;have I:((d.attach.mergeSort λx y=>!(ltOf C) y x).map (·.1))=tA d:=by unfold tA;have :=List.map_mergeSort (r:=λx y:i=>!(ltOf C) y x) (s:=λx y=>!(ltOf cfT) y x) (f:=λx:i=>x.1) (l:=d.attach) (λa _ b _=>rfl);grind
 have L:(d.attach.mergeSort λx y=>!(ltOf C) y x).length=d.length:=by simp
 refine⟨rfl,⟨?_,.inr ⟨t,cap,_,rfl,J,EG _ o,F,H,by simp[putCells,G],?_⟩⟩,si _ J (by omega)⟩;·rw[qT (λ_=>rfl)];grind
 ·have :=Rf E g (d.attach.mergeSort λx y=>!(ltOf C) y x) (by grind);grind
structure HitsOk(P:Program)(f K c:Nat)(k:TypeId):Prop where
 key:HitKey P k
 enters:Enters P f
 cmp:Enters P c
 some:∀(bm b nn:Nat)(D0:DataW Unit)(w:World),bm<w.heap.size->w.cell? ⟨bm,0,Option.none⟩=Option.some (.map (Option.some b))->w.ownsMap P k anyR b nn D0->Go.Maps.size D0<=lim->(∀hs,qU P k D0 hs->CmpsH P c hs w.heap.size w)->Calls P f #[.func (.func K) #[] #[.pointer (Option.some ⟨bm,0,Option.none⟩)],.func (.func c) #[] #[]] w λe w'=>∃(v:Value)(hs:List HitT),e=.returned v/\qU P k D0 hs/\w'.ownsRow w.heap.size k 2 v hs.length ((tA hs).flatMap jN)/\(v=.slice Option.none 0 0↔hs=[])/\Below w.heap.size w w'
theorem lY:∀{c:List (PV×AV)}{a:List (List UInt8×Bool)},cR c=some a->c.map (·.1)=a.map hitP/\∀s∈a,s.1.length<=lim:=by intro c;induction c with|nil=>intro a h;simp[cR,]at h;grind|cons x r g=>
  intro a h;let⟨k,v⟩:=x;unfold cR at h;split at h;·grind
  ·rename_i s b o j e;cases e;split at h;·rename_i l;obtain⟨q,d,rfl⟩:=Option.map_eq_some_iff.1 h;let⟨f,m⟩:=g d;refine⟨by simp[f,hitP],λs n=>?_⟩;grind
   grind
  grind
section


variable{Γ:Ctx}{N:Names}{P:Program}{w:World}{S:Nat->Prop}{μ:Nat->Value}{H:Heap}
theorem relHit{ν:Nat->Nat}{w:World}{S:Nat->Prop}{h:List UInt8×Bool}{u:Value}(b:RelP ν w S (hitP h) u):u=encH (unp h):=by unfold hitP at b;cases b with|agg _ us f k d=>
  have a0:=d 0 _ rfl;have c:=d 1 _ rfl;have j:us.size=2:=f;have g:us.getD 0 undef=.string ⟨h.1.toArray⟩:=by generalize us.getD 0 undef=z at a0;cases a0;rfl
  have e:us.getD 1 undef=.bool h.2:=by generalize us.getD 1 undef=z at c;cases c;rfl
  unfold encH unp;congr 1;refine Array.ext (by grind) λi l m=>?_;simp[]at g e;grind
theorem ST{ν:Nat->Nat}{w:World}{S:Nat->Prop}(h:HitT):RelP ν w S (hitP h.p) (encH h):=by refine .agg _ _ rfl (by simp[PV.one]) λj c a=>?_;match j,a with|0,a=>simp at a;subst a;exact .str _|1,a=>simp at a;subst a;exact .bool _|j+2,a=>grind
theorem Jf{ν:Nat->Nat}{k:TypeId}(p:HitKey P k):∀{f:List (PV×AV)}{l:List MapEntry}{a:List (List UInt8×Bool)},MapRel ν w S μ H f l->cR f=some a->l.map (λe=>e.key)=a.map (λh=>encH (unp h))/\(∀x∈l,∃y,Go.WideElems.rd P k anyR x=some y):=by intro f;induction f with
 |nil=>intro l a c h;simp[cR,]at h;subst h;cases l with|nil=>simp|cons _ _=>exact c.elim
 |cons x r o=>intro l a c h;let⟨kk,v⟩:=x;let⟨A,m⟩:=lY h;cases l with|nil=>exact c.elim|cons e l=>cases a with|nil=>grind|cons s a=>
    have n:cR r=some a:=by unfold cR at h;split at h;all_goals simp_all
    let⟨z,t⟩:=o c.2.2.2 n;have i:kk=hitP s:=by grind
    have j:=c.1;rw[i]at j;have d:=relHit j;let⟨g,b⟩:=p.reads (unp s) (Nat.le_trans (m s (by simp)) (by decide));have q:Go.WideElems.rd P k anyR e=some (g,.nil):=by simp[Go.WideElems.rd,d,b]
    grind
theorem Uk{R g:Nat}{k:TypeId}(B:HitKey P k)(V:Rel N.fn w S μ H){j:List (PV×AV)}{q:List (List UInt8×Bool)}(K:mapOf H R=some j)(z:cR j=some q)(O:j.length<=lim)(Y:μ R=.pointer (some ⟨g,0,none⟩)):∃C:DataW Unit,w.ownsMap P k anyR g j.length C/\Go.Maps.size C=j.length/\∀h,qU P k C h->(h.map HitT.p).Perm q:=by
 let⟨g',a,b,T,X,o,M⟩:=V.map_of K;rw[Y]at T;cases T;let⟨Q,G⟩:=Jf B M z;have u:a.size=j.length:=by simpa using M.len
 have F:Go.WideElems.Fit P k anyR a b:=⟨by rw[u];exact Nat.le_trans O (by decide),o,G⟩;have E:(a.toList.map λe=>e.key).Nodup:=by rw[List.Nodup,List.pairwise_map];exact((Go.MapKept.stamped_iff a b).1 o).2.2
 rw[Q]at E;have A:(q.map unp).Nodup:=by grind
 refine⟨_,⟨a,b,X,F,by omega,rfl⟩,?_,?_⟩;·show(List.foldr DataW.insert [] _).length=_;rw[(Go.WideShapes.sorted_perm _).length_eq,List.length_map,Array.length_toList,u]
 ·rintro h⟨W,h2,h3⟩;have n:∀x:HitT,x∈h↔x∈q.map unp:=by
   have U:∀x:HitT,∀l,keyOf P k (encH x)=some l->(Go.Maps.has (DataW.map ((a.toList.map (Go.WideElems.rg P k anyR)).foldr DataW.insert [])) l=true↔x∈q.map unp):=by
    intro x l m;show List.any _ _=true↔_;rw[List.any_eq_true];constructor;·rintro⟨p,v,h⟩;have v:=(Go.WideShapes.sorted_perm _).mem_iff.1 v;obtain⟨e,t,rfl⟩:=List.mem_map.1 v;let⟨y,r⟩:=G e t;have d:=Go.WideElems.rd_key r;rw[Go.WideElems.rg_of r]at h;have I:=Go.WideAt.sameKey_eq h;rw[I]at d;have L:=B.keyed.inj d m;have :e.key∈a.toList.map λe=>e.key:=List.mem_map.2 ⟨e,t,rfl⟩;rw[Q]at this;let⟨s,f,i⟩:=List.mem_map.1 this;rw[L]at i;exact List.mem_map.2 ⟨s,f,Ms i⟩
    ·intro D;let⟨s,f,i⟩:=List.mem_map.1 D;have :encH x∈a.toList.map λe=>e.key:=by grind
     let⟨e,t,J⟩:=List.mem_map.1 this;let⟨y,r⟩:=G e t;have d:=Go.WideElems.rd_key r;rw[J,m]at d;cases d;refine⟨Go.WideElems.rg P k anyR e,(Go.WideShapes.sorted_perm _).mem_iff.2 (List.mem_map.2 ⟨e,t,rfl⟩),?_⟩;rw[Go.WideElems.rg_of r];exact Go.WideAt.sameKey_self (B.keyed.key m)
   intro x;constructor;·grind
   ·intro m;obtain⟨s,f,rfl⟩:=List.mem_map.1 m;let⟨l,O⟩:=B.reads (unp s) (Nat.le_trans ((lY z).2 s f) (by decide));grind
  have v:=(List.perm_ext_iff_of_nodup W A).2 n;have :=v.map HitT.p;rw[List.map_map]at this;simpa[Function.comp_def,p_unp]using this
theorem row_hits{ν:Nat->Nat}{a:Nat}{k:TypeId}{v:Value}{l:List HitT}{e:World}(o:e.ownsRow a k 2 v l.length (l.flatMap jN))(F:v=.slice none 0 0↔l=[]){S:Nat->Prop}(C:∀g,S g->g<a)(A:a<=e.heap.size):∃q:Nat->Prop,(∀g,S g->q g)/\(∀g,q g->g<e.heap.size)/\(∀g,q g->S g\/a<=g)/\RelP ν e q (rowH (l.map HitT.p)) v:=by cases l with
 |nil=>obtain rfl:=F.2 rfl;exact⟨S,λ_ h=>h,λg h=>Nat.lt_of_lt_of_le (C g h) A,λ_ h=>.inl h,.sl .nil 2 [] none 0 (λ_ _=>undef) (Nat.le_refl _) (Nat.zero_le _) (by simp) (by simp) (by simp) (by simp) (by simp) (by simp)⟩|cons s r=>
  obtain⟨M,K|⟨g,cap,y,rfl,O,I,L,B,P,J⟩⟩:=o;·grind
  refine⟨λx=>S x\/x=g,λ_ h=>.inl h,λx h=>?_,λx h=>?_,?_⟩;·grind
  ·grind
  have D:rowH ((s::r).map HitT.p)=.sl .any 2 ((s::r).map λh=>hitP h.p):=by simp only[rowH,List.map_cons,List.map_map];rfl
  rw[D];have m:∀(i:Nat)t,(s::r)[i]?=some t->∀j c,(jN t)[j]?=some c->e.cell? ⟨g,i*2+j,none⟩=some c:=by
   intro i t hi j c b;have E:=(List.getElem?_eq_some_iff.1 hi).1;have H:j<2:=(List.getElem?_eq_some_iff.1 b).1;have z:(y.toList.take ((s::r).length*2))[i*2+j]?=((s::r).flatMap jN)[i*2+j]?:=by grind
   rw[List.getElem?_take_of_lt (by omega),qO (λ_=>rfl),show(i*2+j)/2=i by omega,show(i*2+j)%2=j by omega,hi]at z;rw[Option.bind_some,b,Array.getElem?_toList]at z;simp[World.cell?,];grind
  have w:RelP ν e (λx=>S x\/x=g) (.sl .any 2 ((s::r).map λh=>hitP h.p)) (.slice (some ⟨g,0,none⟩) ((s::r).map λh:HitT=>hitP h.p).length cap):=by
   refine .sl .any 2 _ (some ⟨g,0,none⟩) cap (λi j=>(((s::r)[i]?).bind λt=>(jN t)[j]?).getD undef) (by grind) B (λx d=>?_) (by simp) (by simp) (λ_=>⟨_,rfl,.inr rfl⟩) (λN G i x j c d b=>?_) (λi x j c d b=>?_);·obtain⟨t,_,rfl⟩:=List.mem_map.1 d;exact⟨rfl,by simp[hitP,PV.cells,PV.one]⟩
   ·cases G;rw[List.getElem?_map,Option.map_eq_some_iff]at d;obtain⟨t,u,rfl⟩:=d;have n:j<2:=(List.getElem?_eq_some_iff.1 b).1;have p:(jN t)[j]?=some ((jN t)[j]'n):=List.getElem?_eq_getElem n;rw[u,Option.bind_some,p,Option.getD_some,<-m i t u j _ p];congr 1;unfold Addr.add;grind
   ·rw[List.getElem?_map,Option.map_eq_some_iff]at d;obtain⟨t,u,rfl⟩:=d;rw[u,Option.bind_some];match j,b with
    |0,b=>simp[hitP,PV.cells,]at b;subst b;exact .str _|1,b=>simp[hitP,PV.cells,]at b;subst b;exact .bool _|j+2,b=>simp[hitP,PV.cells]at b
  grind
theorem grow_of{w a:World}(n:Grows w a)(m:w.drawn<=a.drawn):∃q b,a=grow (w.drewN q) b:=by
 refine⟨a.drawn-w.drawn,a.heap.extract w.heap.size a.heap.size,?_⟩;let⟨p,t,s,o,r⟩:=w;let⟨i,l,k,b,h⟩:=a;let⟨f,e,d,j,g⟩:=n;simp  at f e d j g m;subst f e d;simp[World.drewN];congr 1;all_goals grind
theorem GlRel.below{w f:World}{S:Nat->Prop}(h:GlRel Γ N w S)(i:∀g,S g->g<w.heap.size)(b:Below w.heap.size w f):GlRel Γ N f S:=by
 refine⟨λn cs a=>(h.rel n cs a).keep (λ_ h=>h) (λg o=>b.block g (i g o)),λn cs a=>?_,λn a=>?_⟩;·let⟨us,e,k,d,l⟩:=h.whole n cs a;exact⟨us,e,k,(b.block _ (Array.getElem?_eq_some_iff.1 d).1).trans d,l⟩
 ·let⟨c,m,j⟩:=h.ints n a;exact⟨c,m,(gM (b.block _ (i _ c))).trans j⟩
theorem Qt{f c:Nat}{Ks:List Nat}{k:TypeId}(h:∀K∈Ks,HitsOk P (N.fn f) (N.fn K) (N.fn c) k):TG Γ N P f c hitsQ (hitsG Ks c):=by
 intro args H ps rs I d D w S μ us C T ha;unfold hitsG at d;split at d;rotate_left;·grind
 rename_i kf b k';split at d;rotate_left;·grind
 rename_i M;obtain⟨M,rfl⟩:=M;have h:=h kf (List.contains_iff_mem.1 M);obtain⟨cs,hb,d⟩:=Option.bind_eq_some_iff.1 d;match us,ha with
 |[u,u2],⟨hu,V,_⟩=>
 have U:u2=.func (.func (N.fn k')) #[] #[]:=by have :=V.p_inv;cases this with|clo _ _ us h1 l h3=>grind
 subst U;cases hu with|clo _ _ us q1 q2 q3=>
 have J:=q3 0 (.bx b 0) rfl;obtain⟨F,hgb,hbl,q⟩:=J.bx_inv;have hH:=jo hb;have q:=q _ hH;have X:us=#[.pointer (some ⟨F,0,none⟩)]:=by
  have :us.size=1:=q1;obtain⟨u0,rfl⟩:∃u0,us=#[u0]:=by refine⟨us[0],Array.ext (by grind) λi h1 l=>?_⟩;grind
  simp_all
 subst X;let⟨g',e1,n⟩:=C.blk b _ hH;rw[q]at e1;cases e1;have Z:F<w.heap.size:=by grind
 have Q:∀c,cs=[c]->∃x,w.cell? ⟨F,0,none⟩=some x/\RelV N.fn w S μ H c x:=by
  rintro c rfl;rcases n with⟨m,t,l,h3,h4,h5⟩|⟨s,pos,l,_⟩|⟨E,m,R,l,_⟩
  ·have h6:0<m.size:=by grind
   refine⟨m[0],by simp[World.cell?,l,h6],?_⟩;simpa[h6]using h5 0 c rfl
  ·simp[bX]at l
  ·simp[ak]at l
 unfold hitsV at d;split at d
 ·rename_i id;let⟨E,z,d⟩:=Option.bind_eq_some_iff.1 d;let⟨ss,hss,d⟩:=Option.bind_eq_some_iff.1 d;simp[Option.ite_none_right_eq_some,Option.some.injEq]at d;obtain⟨hl,rfl⟩:=d;have hps:ps=ss.flatMap λa=>ss.map λb=>([hitP a,hitP b],cmpH a b):=by change(dj H b).bind (SM H)=some ps at I;rw[hb]at I;change(mapOf H id).bind (λE=>(cR E).map λj=>j.flatMap λa=>j.map λb=>([hitP a,hitP b],cmpH a b))=some ps at I;grind
  let⟨x,hx1,O⟩:=Q _ rfl;obtain⟨g,rfl,_,d⟩:=O.mp_inv;have d:=d _ (eZ z);let⟨D0,d1,d2,d3⟩:=Uk h.key C z hss hl d;have o:∀j,qU P k D0 j->CmpsH P (N.fn k') j w.heap.size w:=by
   intro j B x hx y hy W hW;have p:=d3 j B;have hxs:=p.mem_iff.1 (List.mem_map.2 ⟨x,hx,rfl⟩);have A:([hitP x.p,hitP y.p],cmpH x.p y.p)∈ps:=by grind
   have hdo:=D _ A W S [encH x,encH y] (λg d=>Nat.lt_of_lt_of_le (C.lt g d) hW.size) (GlRel.below T C.lt hW) ⟨ST x,ST y,trivial⟩;rcases hdo with⟨_,hc⟩|⟨v,Y,h1,_⟩;·have hcd:=JX hc (λe Y hh=>by grind);refine hcd.mono ?_;rintro e Y⟨⟨v,rfl,rfl,d⟩,hd⟩;exact⟨rfl,grow_of d hd⟩
   ·rw[h.cmp]at h1;grind
  refine .inl ⟨h.enters _ _,(h.some F g E.length D0 w Z hx1 d1 (by grind) o).mono ?_⟩;rintro e Y⟨v,j,rfl,z1,z2,z3,r⟩;have L:j.length=(tA j).length:=by simp[tA]
  have G:j=[]↔tA j=[]:=by grind
  rw[L]at z2;let⟨S',s1,s2,s3,s4⟩:=row_hits (ν:=N.fn) z2 (z3.trans G) C.lt r.size;rw[sortT_eq (d3 j z1)]at s4;exact⟨_,rfl,[v],S',rfl,⟨r.os,r.tape,r.output,r.size,λg d=>r.block g d⟩,s1,s2,s3,s4,trivial⟩
 grind
end
end Ab
