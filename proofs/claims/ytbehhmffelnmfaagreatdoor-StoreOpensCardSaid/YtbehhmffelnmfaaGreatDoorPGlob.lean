import Derived.Test.YtbehhmffelnmfaaGreatDoorCode
import Derived.Test.YtbehhmffelnmfaaGreatDoorAbW2
import Derived.Test.YtbehhmffelnmfaaGreatDoorDec
set_option linter.all false
namespace Ab
def splitB(c:UInt8):List UInt8->List (List UInt8)|[]=>[[]]|b::l=>if b=c then[]::splitB c l else match splitB c l with|[]=>[[b]]|h::t=>(b::h)::t
@[go_sem]theorem Jc(s:List UInt8)(c:Int):res Γ 70 [.str s,.int .u8 c]=some [.int .i64 (ixB s c.toNat.toUInt8)]:=nM (lr (g:=pT) rfl rfl)
@[go_sem]theorem Sj(s:List UInt8)(c:Int):res Γ 73 [.str s,.int .u8 c]=some [.int .i64 (s.count c.toNat.toUInt8:Nat)]:=nM (lr (g:=My) rfl rfl)
@[go_sem]theorem NQ(s:List UInt8)(c:Int):res Γ 64 [.str s,.int .u8 c]=some [.int .i64 (ixB s c.toNat.toUInt8)]:=by refine ae (fn:=bR) rfl rfl ?_;simp(disch:=first|exact Dq|fail)only[go_sem,bR]
@[go_sem]theorem res_IndexByte(s:List UInt8)(c:Int):res Γ 55 [.str s,.int .u8 c]=some [.int .i64 (ixB s c.toNat.toUInt8)]:=by refine ae (fn:=strings_IndexByte) rfl rfl ?_;simp(disch:=first|exact Dq|fail)only[go_sem,strings_IndexByte]
theorem Ug{c:UInt8}:byt [c] 0=(c.toNat:Int):=rfl
theorem CY{c:UInt8}:c.toNat.toUInt8=c:=by simp
@[go_sem]theorem res_liteIndex1(s:List UInt8)(c:UInt8):res Γ 74 [.str s,.str [c]]=some [.int .i64 (ixB s c)]:=by
 refine ae (fn:=cI) rfl rfl ?_;simp(disch:=first|exact Dq|fail)only[go_sem,cI];refine aP (λb=>?_) (λb=>?_);·simp(disch:=first|exact Dq|fail)only[go_sem];subst b;simp[ixB]
 ·simp(disch:=first|exact Dq|fail)only[go_sem,Ug,CY]
@[go_sem]theorem res_Index1(s:List UInt8)(c:UInt8):res Γ 67 [.str s,.str [c]]=some [.int .i64 (ixB s c)]:=by refine ae (fn:=strings_Index) rfl rfl ?_;simp(disch:=first|exact Dq|fail)only[go_sem,strings_Index]
@[go_sem]theorem res_Count1(s:List UInt8)(c:UInt8):res Γ 68 [.str s,.str [c]]=some [.int .i64 (s.count c:Nat)]:=by refine ae (fn:=strings_Count) rfl rfl ?_;simp(disch:=first|exact Dq|fail)only[go_sem,strings_Count,Ug,CY]
theorem uD{s:List UInt8}{c:UInt8}:-1<=ixB s c/\ixB s c<s.length:=by induction s with|nil=>simp[ixB]|cons b l d=>simp[ixB,];grind
theorem oK(c:UInt8):∀s:List UInt8,(ixB s c<0->splitB c s=[s])/\(0<=ixB s c->splitB c s=s.take (ixB s c).toNat::splitB c (s.drop ((ixB s c).toNat+1)))
 |[]=>by simp[ixB,splitB]|b::l=>by
  have f:=oK c l;by_cases d:b=c;·subst d;simp[ixB,splitB]
  ·have a:(b==c)=false:=by grind
   simp[ixB,splitB,];grind
theorem bz(c:UInt8):∀s:List UInt8,(splitB c s).length=s.count c+1
 |[]=>by rfl|b::l=>by
  have a:=bz c l;by_cases d:b=c;·subst d;simp[splitB,a]
  ·simp[splitB,];grind
theorem count_le{s:List UInt8}{c:UInt8}:s.count c<=s.length:=List.count_le_length
theorem IP(c:UInt8)(n:Nat)(w:n<1000000000)(Q:Out->Prop):∀(k i:Nat)(s:List UInt8)(a:List (List UInt8)),s.length<1000000000->a.length=i->s.count c=k->i+k=n->(∀f b,strs (a++splitB c s)=strs (b++[f])->b.length=n->Q (.nrm,[(0,.p (.str f)),(9,.own 0 (n+1)),(10,.p (.int .i64 (n:Int)))],[.row false 1 (strs (b++[[]]))]))->Wp Γ fw [(0,.p (.str s)),(1,.p (.str [c])),(2,.p (.int .i64 0)),(3,.p (.int .i64 (n:Int))),(9,.own 0 (n+1)),(10,.p (.int .i64 (i:Int)))] [.row false 1 (strs (a++List.replicate (k+1) []))] (aW [0,9,10] 0 Q):=by intro k;induction k with
 |zero=>
  intro i s a o j r hi g;rw[aa (L:=fw) rfl];simp(disch:=first|exact Dq|fail)only[go_sem];obtain rfl:i=n:=by omega
  have h:¬0<=ixB s c:=λh=>by have :=bz c s;rw[(oK c s).2 h]at this;simp at this;have :=bz c (s.drop ((ixB s c).toNat+1));omega
  refine g s a ?_ j;rw[(oK c s).1 (by omega)]|succ k u=>
  intro i s a o j r hi g;rw[aa (L:=fw) rfl];have h:0<=ixB s c:=by
   have :=bz c s;by_cases h:ixB s c<0;·rw[(oK c s).1 h]at this;grind
   grind
  have q:=@uD s c;simp(disch:=first|exact Dq|fail)only[go_sem,set_rep];have e:a++List.take (ixB s c).toNat s::List.replicate (k+1+1-1) []=(a++[List.take (ixB s c).toNat s])++List.replicate (k+1) []:=by simp
  have t:(ixB s c+((1:Nat):Int)).toNat=(ixB s c).toNat+1:=by omega
  have x:=bz c s;have A:=(oK c s).2 h;have v:=bz c (s.drop ((ixB s c).toNat+1));rw[e,t];refine u (i+1) _ _ (by simp;omega) (by simp[*]) ?_ (by omega) (λf m z l=>g f m ?_ l);all_goals simp_all
@[go_sem]theorem res_genSplit(s:List UInt8)(c:UInt8)(g:s.length<900000000):res Γ 63 [.str s,.str [c],.int .i64 0,.int .i64 (-1)]=some [.sl .any 1 (strs (splitB c s))]:=by have f:=@count_le s c;refine ae (fn:=strings_genSplit) rfl rfl ?_;simp(disch:=first|exact Dq|fail)only[go_sem,strings_genSplit];rw[show((s.count c:Nat):Int)+1-1=((s.count c:Nat):Int)by omega,show(((s.count c:Nat):Int)+1).toNat=s.count c+1 by omega];refine IP c (s.count c) (by omega) _ (s.count c) 0 s [] (by omega) rfl rfl (by omega) (λd b e h=>?_);simp(disch:=first|exact Dq|fail)only[go_sem];rw[show(((s.count c:Nat):Int)+1).toNat=(b++[d]).length by grind,List.take_length,<-e,List.nil_append]
@[go_sem]theorem res_Split(s:List UInt8)(c:UInt8)(b:s.length<900000000):res Γ 52 [.str s,.str [c]]=some [.sl .any 1 (strs (splitB c s))]:=by refine ae (fn:=strings_Split) rfl rfl ?_;simp(disch:=first|exact Dq|fail)only[go_sem,strings_Split]
def nI(c:UInt8):List UInt8->List UInt8->List (List UInt8)|cur,[]=>[cur]|cur,b::l=>if b=c then cur::nI c [] l else nI c (cur++[b]) l
theorem zP(c:UInt8):∀(l a:List UInt8),nI c a l=match splitB c l with|[]=>[a]|h::t=>(a++h)::t
 |[],a=>by simp[nI,splitB]|b::l,a=>by
  by_cases e:b=c;·simp[nI,splitB,];rw[zP c l []];have :=bz c l;grind
  ·simp[nI,splitB,e,];rw[zP c l];cases h:splitB c l<;>simp
theorem OP(c:UInt8)(l:List UInt8):nI c [] l=splitB c l:=by rw[zP];have :=bz c l;grind
theorem drop_cons{s:List UInt8}{i:Nat}{b:UInt8}{r:List UInt8}(h:s.drop i=b::r):i<s.length/\byt s i=(b.toNat:Int)/\s.drop (i+1)=r/\s.take (i+1)=s.take i++[b]:=by
 have c:i<s.length:=by
  by_cases c:i<s.length;·grind
  ·rw[List.drop_of_length_le (by omega)]at h;grind
 rw[List.drop_eq_getElem_cons c]at h;cases h;refine⟨c,?_,rfl,?_⟩;·simp[byt,List.getElem?_eq_getElem c]
 simp
theorem drop_nil{s:List UInt8}{i:Nat}(h:s.drop i=[]):s.length<=i:=by simp_all
theorem toNat_eq{b:UInt8}{n:Nat}(d:n<256):((b.toNat:Int)=(n:Int))↔b=UInt8.ofNat n:=by
 constructor
 ·intro h;have :b.toNat=n:=by omega
  rw[<-this];simp
 ·rintro rfl;simp;omega
@[go_sem]theorem iI(s:List UInt8)(b:s.length<900000000):res Γ 36 [.str s]=some [.sl .any 1 (strs (splitB 46 s))]:=by refine ae (fn:=ph) rfl rfl ?_;simp(disch:=first|exact Dq|fail)only[go_sem,ph]
theorem AJ(s:List UInt8)(x:s.length<900000000)(Q:Out->Prop):∀(c d:List UInt8)(i f:Nat)(a:List (List UInt8)),s.drop i=c->(s.take i).drop f=d->f<=i->i<=s.length->a.length<=i->(Q (.nrm,[(3,.own 0 (a++nI 46 d c).length)],[.row false 1 (strs (a++nI 46 d c))]))->Wp Γ lm [(0,.p (.str s)),(3,.own 0 a.length),(4,.p (.int .i64 f)),(5,.p (.int .i64 (i:Int)))] [.row false 1 (strs a)] (aW [3] 0 Q):=by intro c;induction c with
 |nil=>
  intro d i f a m l r w v g;have :=drop_nil m;obtain rfl:i=s.length:=by omega
  rw[aa (L:=lm) rfl];simp(disch:=first|exact Dq|fail)only[go_sem];rw[aa (L:=lm) rfl];simp(disch:=first|exact Dq|fail)only[go_sem];simp[nI,]at g;grind|cons b c o=>
  intro d i f a m l r w v g;let⟨y,u,q,t⟩:=drop_cons m;rw[aa (L:=lm) rfl];simp(disch:=first|exact Dq|fail)only[go_sem,u];refine aP (λj=>?_) (λj=>?_)
  ·have k:=(toNat_eq (n:=46) (by simp)).1 j;subst k;simp(disch:=first|exact Dq|fail)only[go_sem];have e:a.length+1=(a++[List.drop f (List.take i s)]).length:=by simp
   rw[e];exact o [] (i+1) (i+1) _ q (by simp) (Nat.le_refl _) (by omega) (by grind) (by simpa[nI,l]using g)
  ·have k:b≠46:=λh=>j (by simp[*]);simp(disch:=first|exact Dq|fail)only[go_sem];refine o (d++[b]) (i+1) f a q ?_ (by omega) (by omega) (by omega) (by simpa[nI,k]using g);rw[t,List.drop_append_of_le_length (by grind),l]
@[go_sem]theorem na(s:List UInt8)(a:s.length<900000000):res Γ 40 [.str s]=some [.sl .any 1 (strs (splitB 46 s))]:=by refine ae (fn:=vM) rfl rfl ?_;simp(disch:=first|exact Dq|fail)only[go_sem,vM];refine AJ s a _ s [] 0 0 [] rfl (by simp) (by omega) (by omega) (by simp) ?_;simp(disch:=first|exact Dq|fail)only[go_sem,OP]
theorem step_old(H:Heap)(b m d:Nat)(c:AV)(k:List UInt8)(e:List (PV×AV))(f:H[b]?=some (.box [.mp m,c]))(h:H[m]?=some (.box (ak e)))(g:pZ (.str k) e=some (some (.bx d 0))):resW Γ 420 [.bx b 0,.p (.str k)] H=some ([.bx d 0],H):=by refine ah (fn:=fZ) rfl rfl ?_;simp(disch:=first|exact Dq|fail)only[go_sem,fZ,f,h,g]
theorem PC(a:List (PV×AV))(k:List UInt8)(v:AV)(h:pZ (.str k) a=some none):mput (.str k) v a=some (a++[(.str k,v)]):=by induction a with|nil=>rfl|cons x r d=>
  let⟨b,c⟩:=x;cases b<;>simp[pZ,uo]at h<;>try cases h
  rename_i s;simp[mput,uo];grind
theorem step_new(H:Heap)(b m:Nat)(c:AV)(k:List UInt8)(d:List (PV×AV))(f:H[b]?=some (.box [.mp m,c]))(e:H[m]?=some (.box (ak d)))(g:pZ (.str k) d=some none):resW Γ 420 [.bx b 0,.p (.str k)] H=some ([.bx (H.length+1) 0],(H++[Blk.box (ak [])]++[Blk.box [.mp H.length,.p (.bool false)]]).set m (Blk.box (ak (d++[(PV.str k,AV.bx (H.length+1) 0)])))):=by have i:=(List.getElem?_eq_some_iff.1 f).1;have j:=(List.getElem?_eq_some_iff.1 e).1;have h:=PC d k (.bx (H.length+1) 0) g;refine ah (fn:=fZ) rfl rfl ?_;simp(disch:=first|exact Dq|fail)only[go_sem,fZ,f,e,g,UJ,len2,h]
abbrev Path:=List (List UInt8)
structure Nd where
 b:Nat
 m:Nat
 leaf:Bool
 kids:List (List UInt8×Nat)
abbrev Tri:=Path->Option Nd
def mI(l:List (List UInt8×Nat)):List (PV×AV):=l.map λk=>(.str k.1,.bx k.2 0)
def mark(p:Path)(nd:Nd)(n:Nat):AV:=if p=[]then .p (.int .i64 (n:Int))else .p (.bool nd.leaf)
structure Lies(H:Heap)(N:Tri)(r n:Nat):Prop where
 root:∃nd,N []=some nd/\nd.b=r
 box:∀p nd,N p=some nd->H[nd.b]?=some (.box [.mp nd.m,mark p nd n])map:∀p nd,N p=some nd->H[nd.m]?=some (.box (ak (mI nd.kids)))kid:∀p nd,N p=some nd->∀k b,(k,b)∈nd.kids->∃nd',N (p++[k])=some nd'/\nd'.b=b
 up:∀p k nd',N (p++[k])=some nd'->∃nd,N p=some nd/\(k,nd'.b)∈nd.kids
 nodup:∀p nd,N p=some nd->(nd.kids.map (·.1)).Nodup
 injb:∀p q nd nd',N p=some nd->N q=some nd'->nd.b=nd'.b->p=q
 injm:∀p q nd nd',N p=some nd->N q=some nd'->nd.m=nd'.m->p=q
 sep:∀p q nd nd',N p=some nd->N q=some nd'->nd.b≠nd'.m
def Foot(N:Tri)(i:Nat):Prop:=∃p nd,N p=some nd/\(nd.b=i\/nd.m=i)
theorem Lies.keep{H c:Heap}{N:Tri}{r n:Nat}(h:Lies H N r n)(d:∀i,Foot N i->c[i]?=H[i]?):Lies c N r n where root:=h.root;box p b a:=(d _ ⟨p,b,a,.inl rfl⟩).trans (h.box p b a);map p b a:=(d _ ⟨p,b,a,.inr rfl⟩).trans (h.map p b a);kid:=h.kid;up:=h.up;nodup:=h.nodup;injb:=h.injb;injm:=h.injm;sep:=h.sep
theorem Lies.foot_lt{H:Heap}{N:Tri}{r n i:Nat}(h:Lies H N r n)(c:Foot N i):i<H.length:=by
 obtain⟨p,b,a,rfl|rfl⟩:=c;·exact(List.getElem?_eq_some_iff.1 (h.box p b a)).1
 ·exact(List.getElem?_eq_some_iff.1 (h.map p b a)).1
def kidB(l:List (List UInt8×Nat))(k:List UInt8):Option Nat:=(l.find? λx=>k==x.1).map (·.2)
theorem OH(l:List (List UInt8×Nat))(k:List UInt8):pZ (.str k) (mI l)=some ((kidB l k).map λb=>.bx b 0):=by induction l with|nil=>rfl|cons x r a=>
  let⟨c,b⟩:=x;simp only[mI,List.map_cons,pZ,uo,kidB,List.find?_cons];cases e:(k==c);·exact a
  ·rfl
theorem UR{l:List (List UInt8×Nat)}{k:List UInt8}(h:kidB l k=none):∀b,(k,b)∉l:=by intro b c;simp[kidB,]at h;grind
theorem kidB_mem{l:List (List UInt8×Nat)}{k:List UInt8}{b:Nat}(h:kidB l k=some b):(k,b)∈l:=by obtain⟨x,c,rfl⟩:=Option.map_eq_some_iff.1 h;grind
theorem Lies.kidB{H:Heap}{N:Tri}{r n:Nat}(h:Lies H N r n){p:Path}{c:Nd}(f:N p=some c)(k:List UInt8):Ab.kidB c.kids k=(N (p++[k])).map (·.b):=by cases e:Ab.kidB c.kids k with
 |some b=>obtain⟨a,d,rfl⟩:=h.kid p c f k b (kidB_mem e);grind|none=>cases j:N (p++[k])with|none=>rfl|some a=>let⟨i,d,g⟩:=h.up p k a j;rw[f]at d;cases d;exact absurd g (UR e _)
theorem Lies.find{H:Heap}{N:Tri}{r n:Nat}(h:Lies H N r n){p:Path}{b:Nd}(c:N p=some b)(k:List UInt8):pZ (.str k) (mI b.kids)=some ((N (p++[k])).map λa=>.bx a.b 0):=by rw[OH,h.kidB c];cases N (p++[k])<;>rfl
def ndV(x:Option Nd):AV:=match x with|some nd=>.bx nd.b 0|none=>.p .nilp
theorem Lies.pre{H:Heap}{N:Tri}{r n:Nat}(h:Lies H N r n):∀(t p:Path)b,N (p++t)=some b->∃a,N p=some a:=by intro t;induction t with|nil=>grind|cons k t c=>intro p b f;let⟨a,e⟩:=c (p++[k]) b (by grind);let⟨d,g,_⟩:=h.up p k a e;grind
theorem Oo{kk:SK}{H:Heap}{N:Tri}{r n:Nat}(h:Lies H N r n)(ps:Path)(v:ps.length<1000000)(Q:Out->Prop):∀(f i:Nat)(c:Nd),i+f=ps.length->N (ps.take i)=some c->(N ps=none->∀e,look e 4=.p .nilp->Q (.ret,e,H))->(∀b,N ps=some b->∀e,look e 5=(if ps=[]then .p .nilp else .bx b.b 0)->Q (.ex 0,e,H))->Wp Γ co [(0,.bx c.b 0),(5,if i=0 then .p .nilp else .bx c.b 0),(8,.p (.sl kk 1 (strs ps))),(9,.p (.int .i64 (ps.length:Int))),(10,.p (.int .i64 (i:Int)))] H Q:=by intro f;induction f with
 |zero=>
  intro i c hi g d a;have hi:i=ps.length:=by omega
  subst hi;rw[List.take_length]at g;rw[aa (L:=co) rfl];simp(disch:=first|exact Dq|fail)only[go_sem,co];refine a c g _ ?_;by_cases s:ps=[];·subst s;rfl
  ·rw[if_neg s,if_neg (λe=>s (List.length_eq_zero_iff.1 e))];rfl|succ f q=>
  intro i c hi g d a;have x:i<ps.length:=by omega
  have m:=h.box _ c g;have l:=h.map _ c g;have k:=h.find g (ps.getD i []);have z:ps.take i++[ps.getD i []]=ps.take (i+1):=by simp[*]
  rw[z]at k;have j:N (ps.take (i+1))=none->N ps=none:=λe=>by cases t:N ps with|none=>rfl|some w=>have y:ps=ps.take (i+1)++ps.drop (i+1):=(List.take_append_drop _ _).symm;rw[y]at t;let⟨u,A⟩:=h.pre _ _ _ t;grind
  cases o:N (ps.take (i+1))with|none=>rw[o]at k;rw[aa (L:=co) rfl];simp(disch:=first|exact Dq|fail)only[go_sem,co,m,l,k];exact d (j o) _ rfl|some b=>rw[o]at k;have q:=q (i+1) b (by omega) o d a;rw[if_neg (by omega)]at q;rw[aa (L:=co) rfl];simp(disch:=first|exact Dq|fail)only[go_sem,co,m,l,k];exact q
theorem PT{kk:SK}{H:Heap}{N:Tri}{r n:Nat}(h:Lies H N r n)(ps:Path)(b:ps.length<1000000)(d:ps≠[]):resW Γ 414 [.bx r 0,.p (.sl kk 1 (strs ps))] H=some ([ndV (N ps)],H):=by
 obtain⟨i,j,rfl⟩:=h.root;refine ah (fn:=jI) rfl rfl ?_;simp(disch:=first|exact Dq|fail)only[go_sem,jI];refine Oo h ps b _ ps.length 0 i (by omega) j (λf e a=>?_) (λg c e a=>?_);·simp(disch:=first|exact Dq|fail)only[go_sem,a];simp[f,ndV]
 ·rw[if_neg d]at a;simp(disch:=first|exact Dq|fail)only[go_sem,a];simp[c,ndV]
theorem Fr{l:List (List UInt8×Nat)}(h:∀k∈l,k.1.length<=1000):dH (mI l)=some (l.map (·.1)):=by induction l with|nil=>rfl|cons x r b=>have e:=h x (by simp);have a:=b λk c=>h k (by grind);simp[mI]at a;simp only[mI,List.map_cons,dH];rw[if_pos (by unfold lim;omega),a];rfl
def dV(nd:Nd):Path:=nR (nd.kids.map (·.1))
theorem Ox(m:Nat)(H:Heap):resW Γ 428 [.mp m] H=some ([.clo 433 [.bx H.length 0]],H++[.box [.mp m]]):=by refine ah (fn:=aC) rfl rfl ?_;simp(disch:=first|exact Dq|fail)only[go_sem,aC,boxA]
theorem still428:aw Γ 428=true:=rfl
theorem KA:aw Γ 429=true:=rfl
theorem HV{H:Heap}{N:Tri}{r n:Nat}(h:Lies H N r n){p:Path}{a:Nd}(d:N p=some a)(m:∀k∈a.kids,k.1.length<=1000)(s:a.kids.length<=1000000):resW Γ 423 [.bx a.b 0] H=some ([.p (rowS (dV a))],H++[.box [.mp a.m]]):=by
 have i:=h.box p a d;have c:=h.map p a d;have b:=(List.getElem?_eq_some_iff.1 c).1;have o:=Ox a.m H;have l:resW Γ 429 [.clo 433 [.bx H.length 0]] (H++[.box [.mp a.m]])=some ([.p (rowS (dV a))],H++[.box [.mp a.m]]):=by
  refine xN (g:=Pn [518,433]) (rs:=[rowS (dV a)]) rfl ?_;have j:dj (H++[.box [.mp a.m]]) H.length=some [.mp a.m]:=by simp[dj]
  have e:mapOf (H++[.box [.mp a.m]]) a.m=some (mI a.kids):=by unfold mapOf;rw[List.getElem?_append_left b,c];exact vt _
  have f:(mI a.kids).length<=lim:=by unfold lim mI;grind
  show(dj (H++[.box [.mp a.m]]) H.length).bind (keysV (H++[.box [.mp a.m]]))=_;rw[j];show(mapOf (H++[.box [.mp a.m]]) a.m).bind _=_;rw[e];show(dH (mI a.kids)).bind _=_;rw[Fr m];show(if(mI a.kids).length<=lim then _ else _)=_;rw[if_pos f];rfl
 refine ah (fn:=gU) rfl rfl ?_;simp(disch:=first|exact Dq|fail)only[go_sem,gU,i,still428,KA,o,l]
theorem RA(l:Path):∃kk,rowS l=.sl kk 1 (strs l):=by cases l with|nil=>exact⟨_,rfl⟩|cons a r=>exact⟨_,rfl⟩
theorem DS(H:Heap):resW Γ 422 [.p (.sl .nil 1 [])] H=some ([.p (.sl .nil 1 [])],H):=by refine ah (fn:=bw) rfl rfl ?_;simp(disch:=first|exact Dq|fail)only[go_sem,bw]
theorem NF(H:Heap)(b:Nat)(q:Path)(e:H[b]?=some (.row false 1 (strs q)))(d:0<q.length)(g:q.length<=1000000):resW Γ 422 [.own b q.length] H=some ([.own H.length q.length],H++[.row false 1 (strs q)]):=by
 refine ah (fn:=bw) rfl rfl ?_;obtain⟨a,r,rfl⟩:∃a r,q=a::r:=by cases q with|nil=>grind|cons a r=>simp
 have c:∀(H:Heap),cH H 1 (.p (.sl .tight 1 [])) (strs (a::r))=some (.own H.length (strs (a::r)).length,H++[.row false 1 (strs (a::r))]):=λH=>by simp only[cH];rw[if_pos ⟨.inr ⟨trivial,trivial⟩,by rw[List.nil_append,strs_len];unfold lim;omega⟩]
 rw[strs_len]at c;simp(disch:=first|exact Dq|fail)only[go_sem,bw,e,c]
def vis(N:Tri)(wn:Nat->List UInt8->Bool):Nat->Path->List Path|0,_=>[]|f+1,q=>match N q with|none=>[]|some nd=>(dV nd).flatMap λk=>if wn q.length k=true then(q++[k])::vis N wn f (q++[k])else[]
def Ext0(H H':Heap):Prop:=H.length<=H'.length/\∀i,i<H.length->H'[i]?=H[i]?
theorem Ext0.refl(H:Heap):Ext0 H H:=⟨Nat.le_refl _,λ_ _=>rfl⟩
theorem Ext0.trans{A B C:Heap}(h:Ext0 A B)(k:Ext0 B C):Ext0 A C:=⟨Nat.le_trans h.1 k.1,λi hi=>(k.2 i (Nat.lt_of_lt_of_le hi h.1)).trans (h.2 i hi)⟩
theorem Ext0.app(H G:Heap):Ext0 H (H++G):=⟨by simp,λi hi=>List.getElem?_append_left hi⟩
structure Goes(Γ:Ctx)(N:Tri)(wf mf:Nat)(wc mc:List AV)(wn:Nat->List UInt8->Bool){σ:Type}(st:σ->Path->σ)(J:σ->Heap->Prop)(own:Heap->Nat->Prop)(sz:σ->Nat)(B:Nat):Prop where
 lies:∀s H,J s H->∃r n,Lies H N r n
 ext:∀s H H',J s H->Ext0 H H'->J s H'/\∀i,own H' i->own H i
 lt:∀s H i,J s H->own H i->i<H.length
 wants:∀s H q k nd,J s H->N (q++[k])=some nd->∃H',resW Γ wf (.p (.int .i64 (q.length:Int))::.p (.str k)::wc) H=some ([.p (.bool (wn q.length k))],H')/\Ext0 H H'
 grow:∀s q,sz (st s q)<=sz s+1
 meets:∀s H q nd id,J s H->sz s<B->q≠[]->N q=some nd->H[id]?=some (.row false 1 (strs q))->∃H',resW Γ mf (.own id q.length::.bx nd.b 0::mc) H=some ([],H')/\J (st s q) H'/\H.length<=H'.length/\∀i,i<H.length->¬own H i->H'[i]?=H[i]?/\¬own H' i
 still:aw Γ wf=true/\aw Γ mf=true
 small:∀q nd,N q=some nd->nd.kids.length<=1000000/\∀k∈nd.kids,k.1.length<=1000
def Aft(own:Heap->Nat->Prop)(H H':Heap):Prop:=H.length<=H'.length/\∀i,i<H.length->¬own H i->H'[i]?=H[i]?/\¬own H' i
theorem Aft.trans{a:Heap->Nat->Prop}{A B C:Heap}(h:Aft a A B)(k:Aft a B C):Aft a A C:=⟨Nat.le_trans h.1 k.1,λi hi b=>by let⟨e,c⟩:=h.2 i hi b;let⟨d,f⟩:=k.2 i (Nat.lt_of_lt_of_le hi h.1) c;grind⟩
theorem Aft.refl{a:Heap->Nat->Prop}(H:Heap):Aft a H H:=⟨Nat.le_refl _,λ_ _ h=>⟨rfl,h⟩⟩
def Ahead(own:Heap->Nat->Prop)(H:Heap)(q:Path)(a:AV):Prop:=(q=[]/\a=.p (.sl .nil 1 []))\/∃id,q≠[]/\a=.own id q.length/\H[id]?=some (.row false 1 (strs q))/\¬own H id
theorem Ahead.aft{b:Heap->Nat->Prop}{H d:Heap}{q:Path}{a:AV}(h:Ahead b H q a)(k:Aft b H d):Ahead b d q a:=by
 rcases h with h|⟨e,g,i,c,j⟩;·exact .inl h
 ·let⟨f,l⟩:=k.2 e (List.getElem?_eq_some_iff.1 c).1 j;exact .inr ⟨e,g,i,f.trans c,l⟩
section


variable{N:Tri}{wf mf:Nat}{wc mc:List AV}{wn:Nat->List UInt8->Bool}{σ:Type}{st:σ->Path->σ}{J:σ->Heap->Prop}{own:Heap->Nat->Prop}{sz:σ->Nat}{B:Nat}
theorem Ahead.snoc(G:Goes Γ N wf mf wc mc wn st J own sz B){H:Heap}{s:σ}(l:J s H){q:Path}{a:AV}(h:Ahead own H q a)(t:q.length<=1000)(k:List UInt8):∃c i b d,resW Γ 422 [a] H=some ([c],i)/\cH i 1 c [.str k]=some (.own d (q++[k]).length,b)/\b[d]?=some (.row false 1 (strs (q++[k])))/\Ext0 H b/\¬own b d/\J s b:=by
 have f:∀b d,b=H++[.row false 1 (strs (q++[k]))]->d=H.length->b[d]?=some (.row false 1 (strs (q++[k])))/\Ext0 H b/\¬own b d/\J s b:=by rintro b d rfl rfl;let⟨n,o⟩:=G.ext s H _ l (Ext0.app H [.row false 1 (strs (q++[k]))]);exact⟨by simp,Ext0.app _ _,λj=>by have :=G.lt s H _ l (o _ j);omega,n⟩
 rcases h with⟨rfl,rfl⟩|⟨d,m,rfl,g,j⟩;·refine⟨_,_,H++[.row false 1 (strs [k])],H.length,DS H,?_,f _ _ rfl rfl⟩;rfl
 ·refine⟨_,_,H++[.row false 1 (strs (q++[k]))],H.length,NF H d q g (List.length_pos_iff.2 m) (by omega),?_,f _ _ rfl rfl⟩;simp only[cH,List.getElem?_concat_length];rw[if_pos ⟨strs_len,trivial,by rw[List.length_append,strs_len];simp[];unfold lim;omega⟩,Ef,strs_len];simp
end
theorem Cc(s:List UInt8):∀l,(insB s l).Perm (s::l)
 |[]=>.refl _|t::r=>by
  unfold insB;split;·exact((Cc s r).cons t).trans (.swap s t r)
  rfl
theorem gw:∀l,(nR l).Perm l|[]=>.refl _|s::r=>(Cc s _).trans ((gw r).cons s)
section


variable{N:Tri}{wf mf:Nat}{wc mc:List AV}{wn:Nat->List UInt8->Bool}{σ:Type}{st:σ->Path->σ}{J:σ->Heap->Prop}{own:Heap->Nat->Prop}{sz:σ->Nat}{B:Nat}{wv mv:AV}
theorem Goes.aft(G:Goes Γ N wf mf wc mc wn st J own sz B){H a:Heap}{s:σ}(g:J s H)(h:Ext0 H a):J s a/\Aft own H a:=by let⟨d,f⟩:=G.ext s H a g h;exact⟨d,h.1,λi hi e=>⟨h.2 i hi,λb=>e (f i b)⟩⟩
def WalkOk(N:Tri)(_wf _mf:Nat)(_wc _mc:List AV)(wn:Nat->List UInt8->Bool){σ:Type}(st:σ->Path->σ)(J:σ->Heap->Prop)(own:Heap->Nat->Prop)(sz:σ->Nat)(B:Nat)(wv mv:AV)(f:Nat):Prop:=∀(q:Path)(nd:Nd)(a:AV)(s:σ)(H:Heap),N q=some nd->(∀t nd',N (q++t)=some nd'->t.length<f)->q.length+f<=1000->sz s+(vis N wn f q).length<=B->J s H->Ahead own H q a->∃H',resW Γ 413 [.bx nd.b 0,a,.p (.int .i64 (q.length:Int)),wv,mv] H=some ([],H')/\J ((vis N wn f q).foldl st s) H'/\Aft own H H'
theorem FU(G:Goes Γ N wf mf wc mc wn st J own sz B):∀(l:List Path)(s:σ),sz (l.foldl st s)<=sz s+l.length
 |[],s=>Nat.le_refl _|q::l,s=>by have d:=G.grow s q;have g:=FU G l (st s q);grind
theorem still422:aw Γ 422=true:=rfl
theorem CO:aw Γ 413=true:=rfl
theorem still423:aw Γ 423=true:=rfl
theorem MV(G:Goes Γ N wf mf wc mc wn st J own sz B)(x:callee wv=some (wf,wc))(I:callee mv=some (mf,mc)){f:Nat}(F:WalkOk N wf mf wc mc wn st J own sz B wv mv f){q:Path}{b:Nd}{a:AV}(W:N q=some b)(hd:∀t h,N (q++t)=some h->t.length<f+1)(hq:q.length+f<1000){kk:SK}(hkids:(dV b).length<=1000000)(A:∀k∈dV b,∃h,N (q++[k])=some h)(Q:Out->Prop)(H0:Heap)(s0:σ)(hQ:∀e U,J (((dV b).flatMap λk=>if wn q.length k=true then(q++[k])::vis N wn f (q++[k])else[]).foldl st s0) U->Aft own H0 U->Q (.ex 0,e,U)):∀(g i:Nat)(s:σ)(H:Heap),i+g=(dV b).length->sz s+(((dV b).drop i).flatMap λk=>if wn q.length k=true then(q++[k])::vis N wn f (q++[k])else[]).length<=B->J s H->Aft own H0 H->Ahead own H q a->((dV b).drop i).foldl (λs k=>(if wn q.length k=true then(q++[k])::vis N wn f (q++[k])else[]).foldl st s) s=((dV b).flatMap λk=>if wn q.length k=true then(q++[k])::vis N wn f (q++[k])else[]).foldl st s0->Wp Γ cm [(0,.bx b.b 0),(1,a),(2,.p (.int .i64 (q.length:Int))),(3,wv),(4,mv),(15,.p (.sl kk 1 (strs (dV b)))),(16,.p (.int .i64 ((dV b).length:Int))),(17,.p (.int .i64 (i:Int)))] H Q:=by unfold callee at x I;intro g;induction g with
 |zero=>
  intro i s H hi S hJ hA ha o;have hi:i=(dV b).length:=by omega
  subst hi;rw[List.drop_length]at o;simp[]at o;subst o;rw[aa (L:=cm) rfl];simp(disch:=first|exact Dq|fail)only[go_sem,cm];grind|succ g D=>
  intro i s H hi S hJ hA ha o;have hlt:i<(dV b).length:=by omega
  have j:(dV b).drop i=(dV b).getD i []::(dV b).drop (i+1):=by simp[*]
  let⟨h,d⟩:=A ((dV b).getD i []) (by grind);generalize hk:(dV b).getD i []=k at j d;rw[j,List.foldl_cons]at o;rw[j,List.flatMap_cons,List.length_append]at S;let⟨H1,P,R⟩:=G.wants s H q k h hJ d;let⟨u,y⟩:=G.aft hJ R;have w:=ha.aft y;cases m:wn q.length k with
  |false=>rw[m]at P;rw[m,if_neg (by simp)]at o;have F:=D (i+1) s H1 (by omega) (by omega) u (hA.trans y) w o;rw[aa (L:=cm) rfl];simp(disch:=first|exact Dq|fail)only[go_sem,cm,x,G.still.1,hk,P];exact F|true=>
   rw[m]at P;rw[m,if_pos rfl,List.foldl_cons]at o;rw[m,if_pos rfl,List.length_cons]at S;have hg1:=G.grow s (q++[k]);have hg2:=FU G (vis N wn f (q++[k])) (st s (q++[k]));let⟨r,n,Z⟩:=G.lies s H1 u;have hb:=Z.box q b W;have hm:=Z.map q b W;have K:=Z.find W k;rw[d]at K;let⟨c,H2,H3,id,hcl,V,v,hx3,T,hJ3⟩:=Ahead.snoc G u w (by omega) k;let⟨_,M⟩:=G.aft u hx3;let⟨H4,X,hJ4,hl4,Y⟩:=G.meets s H3 (q++[k]) h id hJ3 (by omega) (by simp) d v;have z:Aft own H3 H4:=⟨hl4,Y⟩;have ha4:=Ahead.aft (.inr ⟨id,by simp,rfl,v,T⟩) z;let⟨H5,E,hJ5,C⟩:=F (q++[k]) h _ _ H4 d (λt nd2 ht=>by grind) (by grind) (by omega) hJ4 ha4;have O:((q++[k]).length:Int)=(q.length:Int)+1:=by simp
   rw[O]at E;have F:=D (i+1) _ H5 (by omega) (by omega) hJ5 (hA.trans (y.trans (M.trans (z.trans C)))) (((w.aft M).aft z).aft C) o;rw[aa (L:=cm) rfl];simp(disch:=first|exact Dq|fail)only[go_sem,cm,x,I,G.still.1,G.still.2,hk,P,hb,hm,K,still422,CO,hcl,V,X,E];exact F
theorem IM(G:Goes Γ N wf mf wc mc wn st J own sz B)(l:callee wv=some (wf,wc))(j:callee mv=some (mf,mc)):∀f,WalkOk N wf mf wc mc wn st J own sz B wv mv f
 |0=>λq b a s H h t _ _ _ _=>by have :=t [] b (by grind);grind|f+1=>λq b a s H h t V Q z O=>by
  let⟨r,n,A⟩:=G.lies s H z;let⟨S,R⟩:=G.small q b h;have D:=HV A h R S;let⟨kk,u⟩:=RA (dV b);rw[u]at D;have C:(dV b).length=b.kids.length:=by have :=(gw (b.kids.map (·.1))).length_eq;rw[List.length_map]at this;exact this
  have i:∀k∈dV b,∃o,N (q++[k])=some o:=λk P=>by have :=(gw (b.kids.map (·.1))).mem_iff.1 P;obtain⟨x,T,rfl⟩:=List.mem_map.1 this;let⟨o,F,_⟩:=A.kid q b h x.1 x.2 T;grind
  let⟨v,m⟩:=G.aft z (Ext0.app H [.box [.mp b.m]]);have e:vis N wn (f+1) q=(dV b).flatMap λk=>if wn q.length k=true then(q++[k])::vis N wn f (q++[k])else[]:=by simp[vis,h]
  rw[e]at Q⊢;have U:∃rs d,resW Γ 413 [.bx b.b 0,a,.p (.int .i64 (q.length:Int)),wv,mv] H=some (rs,d)/\rs=[]/\J (((dV b).flatMap λk=>if wn q.length k=true then(q++[k])::vis N wn f (q++[k])else[]).foldl st s) d/\Aft own H d:=by refine ci (fn:=jF) (K:=λrs d=>rs=[]/\J (((dV b).flatMap λk=>if wn q.length k=true then(q++[k])::vis N wn f (q++[k])else[]).foldl st s) d/\Aft own H d) rfl rfl ?_;simp(disch:=first|exact Dq|fail)only[go_sem,jF,still423,D];refine MV G l j (IM G l j f) h t (by omega) (by omega) i _ (H++[.box [.mp b.m]]) s (λW d F L=>?_) (dV b).length 0 s _ (by omega) (by grind) v (.refl _) (O.aft m) (by rw[List.drop_zero,List.foldl_flatMap]);simp(disch:=first|exact Dq|fail)only[go_sem];exact⟨F,m.trans L⟩
  grind
end
abbrev Val:=Bool×Int
def maxN:Int:=4611686018427387904
def noV:Val:=(false,0)
def isV(v:Val):Bool:=if v.1=true then decide (-maxN<=v.2/\v.2<=maxN)else decide (v.2=0)
def knV(v:Val):Bool:=v.1&&isV v
def ofV(n:Int):Val:=if-maxN<=n/\n<=maxN then(true,n)else noV
def intV(n:Int):Val:=if-maxN<=n*1000000/\n*1000000<=maxN then(true,n*1000000)else noV
def sumV(a b:Val):Val:=if knV a=true/\knV b=true then ofV (a.2+b.2)else noV
def addV(l:List Val):Val:=l.foldl sumV (ofV 0)
def Nb(a b:Val):Bool:=knV a&&knV b&&decide (a.2<b.2)
def knL(l:List Val):List Val:=l.filter knV
def mdV(a b c:Int):Option Int:=if c=0 then none else let q:=(a.natAbs*b.natAbs)/c.natAbs;let r:=(a.natAbs*b.natAbs)%c.natAbs;let q':=if c.natAbs-r<=r then q+1 else q;if(q':Int)<=maxN then some (if((decide (a<0)!=decide (b<0))!=decide (c<0))=true then-(q':Int)else q')else none
def valV:Option Int->Val|some n=>ofV n|none=>noV
def divV(a b:Val):Val:=if knV a=true/\knV b=true then valV (mdV a.2 1000000 b.2)else noV
def maxV(b:Val)(l:List Val):Val:=l.foldl (λb v=>if b.2<v.2 then v else b) b
def minV(b:Val)(l:List Val):Val:=l.foldl (λb v=>if v.2<b.2 then v else b) b
def aggV(kind:Int)(l:List Val):Val:=match knL l with|[]=>noV|b::k=>if kind=1 then divV (addV (b::k)) (intV ((b::k).length:Nat))else if kind=2 then addV (b::k)else if kind=3 then(b::k).getLastD noV else if kind=4 then maxV b k else if kind=5 then minV b k else noV
theorem knV_iff{v:Val}:knV v=true↔v.1=true/\-maxN<=v.2/\v.2<=maxN:=by unfold knV isV;grind
theorem knL_mem{l:List Val}{v:Val}(h:v∈knL l):knV v=true:=(List.mem_filter.1 h).2
end Ab
namespace Ab
theorem Jl(l:List (List UInt8)):xv (strs l)=some l:=by induction l with|nil=>rfl|cons a l b=>simp[strs,xv]at b⊢;grind
@[go_sem]theorem res_Join{kk:SK}(l:List (List UInt8))(a:List UInt8)(d:l.length<1000000000)(c:(bI a l).length<=1000000000):res Γ 48 [.sl kk 1 (strs l),.str a]=some [.str (bI a l)]:=by refine nM (lr (g:=TW) rfl ?_);simp[TW,Jl];grind
theorem pR(c x:List UInt8):∀l:List (List UInt8),l≠[]->bI c (l++[x])=bI c l++(c++x)
 |[],h=>absurd rfl h|[a],_=>by simp[bI]|a::b::r,_=>by have :=pR c x (b::r) (by simp);simp[bI,]at this⊢;grind
theorem po(c:List UInt8)(l:List (List UInt8)):∀i,(bI c (l.take i)).length<=(bI c l).length:=by
 have d:∀(b a:List (List UInt8)),(bI c a).length<=(bI c (a++b)).length:=by intro b;induction b with|nil=>simp|cons x b g=>
   intro a;have f:=g (a++[x]);rw[List.append_assoc]at f;refine Nat.le_trans ?_ f;by_cases e:a=[];·subst e;simp[bI]
   ·rw[pR c x a e];simp
 intro i;have :=d (l.drop i) (l.take i);simp_all
theorem take_snoc{b:Type}{l:List b}{i:Nat}(d:b)(h:i<l.length):l.take (i+1)=l.take i++[l.getD i d]:=by simp[*]
theorem Cn{kk:SK}(l:List (List UInt8))(m:l.length<1000000000)(o:(bI [46] l).length<=1000000000)(Q:Out->Prop):∀(k i:Nat),i+k=l.length->(Q (.nrm,[(3,.p (.str (bI [46] l)))],[]))->Wp Γ pp [(0,.p (.sl kk 1 (strs l))),(3,.p (.str (bI [46] (l.take i)))),(4,.p (.int .i64 (i:Int)))] [] (aW [3] 0 Q):=by intro k;induction k with
 |zero=>
  intro i hi f;obtain rfl:i=l.length:=by omega
  rw[aa (L:=pp) rfl];simp(disch:=first|exact Dq|fail)only[go_sem];grind|succ k g=>
  intro i hi f;have b:=po [46] l (i+1);rw[take_snoc [] (by omega)]at b;have a:0<i->l.take i≠[]:=λj h=>by have :=congrArg List.length h;rw[List.length_take,List.length_nil]at this;omega
  have e:(bI [46] (l.take (i+1)))=if i=0 then l.getD i []else bI [46] (l.take i)++46::l.getD i []:=by
   rw[take_snoc [] (by omega)];split;·rename_i h;subst h;rfl
   ·rw[pR _ _ _ (a (by omega))];rfl
  rw[aa (L:=pp) rfl];simp(disch:=first|exact Dq|fail)only[go_sem];refine aP (λd=>?_) (λd=>?_);·rw[if_neg (by omega)]at e;rw[pR _ _ _ (a (by omega))]at b;simp only[List.length_append,]at b;simp(disch:=first|exact Dq|fail)only[go_sem];grind
  ·obtain rfl:i=0:=by omega
   simp only[List.take_zero,bI,List.nil_append]at b⊢;simp(disch:=first|exact Dq|fail)only[go_sem];grind
@[go_sem]theorem NS{kk:SK}(l:List (List UInt8))(b:l.length<1000000000)(a:(bI [46] l).length<=1000000000):res Γ 26 [.sl kk 1 (strs l)]=some [.str (bI [46] l)]:=by refine ae (fn:=CG) rfl rfl ?_;simp(disch:=first|exact Dq|fail)only[go_sem,CG];refine Cn l b a _ l.length 0 (by omega) ?_;simp(disch:=first|exact Dq|fail)only[go_sem]
@[go_sem]theorem ou{kk:SK}(l:List (List UInt8))(c:l.length<1000000000)(a:(bI [46] l).length<=1000000000):res Γ 1 [.sl kk 1 (strs l)]=some [.str (bI [46] l)]:=by refine ae (fn:=sN) rfl rfl ?_;simp(disch:=first|exact Dq|fail)only[go_sem,sN]
structure Tiny(N:Tri):Prop where
 kids:∀q nd,N q=some nd->nd.kids.length<=1000000/\∀k∈nd.kids,k.1.length<=1000
 deep:∀q nd,N q=some nd->q.length<=20/\(bI [46] q).length<=1000
def bZ(N:Tri)(q:Path):Bool:=match N q with|some nd=>nd.leaf|none=>false
def zh(N:Tri)(s:Path)(q:Path):Path:=if bZ N q=true then s++[bI [46] q]else s
def RowB(H:Heap)(l:Nat)(s:Path):Prop:=(s=[]/\H[l]?=some (.box [.p (.sl .nil 1 [])]))\/(s≠[]/\∃id,H[l]?=some (.box [.own id s.length])/\H[id]?=some (.row false 1 (strs s)))
structure NamesJ(N:Tri)(r n l B:Nat)(s:Path)(H:Heap):Prop where
 lies:Lies H N r n
 base:∀i,Foot N i->i<B
 box:B<=l
 row:RowB H l s
 new:∀id m,H[l]?=some (.box [.own id m])->B<=id
def ownN(l:Nat)(H:Heap)(i:Nat):Prop:=i=l\/∃m,H[l]?=some (.box [.own i m])
theorem RowB.lt{H:Heap}{l:Nat}{s:Path}(h:RowB H l s):l<H.length:=by rcases h with⟨_,h⟩|⟨_,a,h,_⟩<;>exact(List.getElem?_eq_some_iff.1 h).1
theorem resW_yes(q:Nat)(k:List UInt8)(H:Heap):resW Γ 416 [.p (.int .i64 (q:Int)),.p (.str k)] H=some ([.p (.bool true)],H):=by refine ah (fn:=gC) rfl rfl ?_;simp(disch:=first|exact Dq|fail)only[go_sem,gC]
theorem uB{q:Path}(b:q≠[])(a:Nd)(n:Nat):mark q a n=.p (.bool a.leaf):=if_neg b
theorem JN{H:Heap}{b m l a k:Nat}(c:H[b]?=some (.box [.mp m,.p (.bool false)])):resW Γ 415 [.own a k,.bx b 0,.bx l 0] H=some ([],H):=by refine ah (fn:=cn) rfl rfl ?_;simp(disch:=first|exact Dq|fail)only[go_sem,cn,c]
theorem Fc{H:Heap}{b m l c:Nat}{q:Path}(e:H[b]?=some (.box [.mp m,.p (.bool true)]))(a:H[l]?=some (.box [.p (.sl .nil 1 [])]))(g:H[c]?=some (.row false 1 (strs q)))(h:q.length<=20)(i:(bI [46] q).length<=1000):resW Γ 415 [.own c q.length,.bx b 0,.bx l 0] H=some ([],(H++[Blk.row false 1 [PV.str (bI [46] q)]]).set l (Blk.box [AV.own H.length 1])):=by have f:=(List.getElem?_eq_some_iff.1 a).1;have d:=ou (kk:=.any) q (by omega) (by omega);refine ah (fn:=cn) rfl rfl ?_;simp(disch:=first|exact Dq|fail)only[go_sem,cn,e,a,g,d,UJ]
theorem ET{H:Heap}{b m l d j:Nat}{q s:Path}(f:H[b]?=some (.box [.mp m,.p (.bool true)]))(e:H[l]?=some (.box [.own j s.length]))(h:H[j]?=some (.row false 1 (strs s)))(o:s.length<=1000000)(g:H[d]?=some (.row false 1 (strs q)))(n:q.length<=20)(k:(bI [46] q).length<=1000):resW Γ 415 [.own d q.length,.bx b 0,.bx l 0] H=some ([],(H.set j (Blk.row false 1 (strs (s++[bI [46] q])))).set l (Blk.box [AV.own j (s.length+1)])):=by
 have c:=ou (kk:=.any) q (by omega) (by omega);have a:(H.set j (Blk.row false 1 (strs (s++[bI [46] q]))))[l]?=some (.box [.own j s.length]):=by grind
 refine ah (fn:=cn) rfl rfl ?_;simp(disch:=first|exact Dq|fail)only[go_sem,cn,f,e,g,c,h,a,Ef]
theorem mR{N:Tri}{q:Path}{a:Nd}(h:N q=some a):bZ N q=a.leaf:=by simp[bZ,h]
theorem Nm{N:Tri}(F:Tiny N)(r n l B:Nat):Goes Γ N 416 415 [] [.bx l 0] (λ_ _=>true) (zh N) (NamesJ N r n l B) (ownN l) List.length 1000000 where
 lies s H h:=⟨r,n,h.lies⟩;ext s H A h D:=by
  have J:=h.row.lt;have e:=D.2 l J;refine⟨⟨h.lies.keep λi hi=>D.2 i (h.lies.foot_lt hi),h.base,h.box,?_,λo m c=>h.new o m (by grind)⟩,λi hi=>?_⟩
  ·rcases h.row with⟨w,g⟩|⟨w,o,g,y⟩;·exact .inl ⟨w,e.trans g⟩
   ·exact .inr ⟨w,o,e.trans g,(D.2 o (List.getElem?_eq_some_iff.1 y).1).trans y⟩
  ·rcases hi with rfl|⟨m,c⟩;·exact .inl rfl
   ·exact .inr ⟨m,by grind⟩
 lt s H i h b:=by
  rcases b with rfl|⟨m,c⟩;·exact h.row.lt
  ·rcases h.row with⟨w,g⟩|⟨w,o,g,y⟩;all_goals grind
 wants s H q k z h C:=⟨H,resW_yes _ _ _,.refl _⟩;grow s q:=by unfold zh;grind
 still:=⟨rfl,rfl⟩;small:=F.kids;meets s H q z o h Q M C p:=by
  let⟨I,G⟩:=F.deep q z C;have v:=h.lies.box q z C;rw[uB M]at v;have L:=h.row.lt;have E:zh N s q=if z.leaf=true then s++[bI [46] q]else s:=by simp[zh,mR C]
  rw[E];cases x:z.leaf with|false=>rw[x]at v;exact⟨H,JN v,h,Nat.le_refl _,λi hi b=>⟨rfl,b⟩⟩|true=>
   rw[x]at v;rw[if_pos rfl];have f:∀A:Heap,(∀i,i<H.length->¬ownN l H i->A[i]?=H[i]?)->Lies A N r n:=λA O=>h.lies.keep λi hi=>by
    refine O i (h.lies.foot_lt hi) λb=>?_;have K:=h.base i hi;rcases b with rfl|⟨m,c⟩;·have :=h.box;omega
    ·have :=h.new _ _ c;omega
   rcases h.row with⟨rfl,g⟩|⟨w,j,g,y⟩
   ·refine⟨_,Fc v g p I G,?_⟩;have a:∀i,i<H.length->¬ownN l H i->((H++[Blk.row false 1 [PV.str (bI [46] q)]]).set l (Blk.box [AV.own H.length 1]))[i]?=H[i]?:=λi hi b=>by rw[List.getElem?_set_ne (λe=>b (.inl e.symm)),List.getElem?_append_left hi]
    have d:((H++[Blk.row false 1 [PV.str (bI [46] q)]]).set l (Blk.box [AV.own H.length 1]))[l]?=some (Blk.box [AV.own H.length 1]):=by grind
    have u:((H++[Blk.row false 1 [PV.str (bI [46] q)]]).set l (Blk.box [AV.own H.length 1]))[H.length]?=some (Blk.row false 1 (strs [bI [46] q])):=by rw[List.getElem?_set_ne (by omega),List.getElem?_concat_length];rfl
    refine⟨⟨f _ a,h.base,h.box,.inr ⟨by simp,H.length,d,u⟩,λo m c=>?_⟩,by simp,λi hi b=>⟨a i hi b,λt=>?_⟩⟩;·rw[d]at c;cases c;have :=h.box;omega
    ·rcases t with rfl|⟨m,c⟩;all_goals grind
   ·refine⟨_,ET v g y (by omega) p I G,?_⟩;have a:∀i,i<H.length->¬ownN l H i->((H.set j (Blk.row false 1 (strs (s++[bI [46] q])))).set l (Blk.box [AV.own j (s.length+1)]))[i]?=H[i]?:=λi hi b=>by rw[List.getElem?_set_ne (λe=>b (.inl e.symm)),List.getElem?_set_ne (λe=>b (.inr ⟨_,by rw[<-e];omega⟩))]
    have d:((H.set j (Blk.row false 1 (strs (s++[bI [46] q])))).set l (Blk.box [AV.own j (s.length+1)]))[l]?=some (Blk.box [AV.own j (s.length+1)]):=by grind
    have u:((H.set j (Blk.row false 1 (strs (s++[bI [46] q])))).set l (Blk.box [AV.own j (s.length+1)]))[j]?=some (Blk.row false 1 (strs (s++[bI [46] q]))):=by grind
    refine⟨⟨f _ a,h.base,h.box,.inr ⟨by simp,j,by grind,u⟩,λo m c=>?_⟩,by simp,λi hi b=>⟨a i hi b,λt=>?_⟩⟩;·rw[d]at c;cases c;exact h.new _ _ g
    ·rcases t with rfl|⟨m,c⟩;·grind
     ·rw[d]at c;cases c;exact b (.inr ⟨_,g⟩)
def RowV(H:Heap)(v:AV)(l:Path):Prop:=(l=[]/\v=.p (.sl .nil 1 []))\/(l≠[]/\∃id,v=.own id l.length/\H[id]?=some (.row false 1 (strs l)))
def CT(N:Tri):Path:=(vis N (λ_ _=>true) 21 []).foldl (zh N) []
theorem Nx{H:Heap}{N:Tri}{r n:Nat}(h:Lies H N r n)(u:Tiny N)(F:(vis N (λ_ _=>true) 21 []).length<=1000000):∃v a,resW Γ 397 [.bx r 0] H=some ([v],a)/\RowV a v (CT N)/\Ext0 H a:=by
 obtain⟨c,x,rfl⟩:=h.root;have s:∀i,i<H.length->(H++[Blk.box [AV.p (.sl .nil 1 [])]])[i]?=H[i]?:=λi hi=>List.getElem?_append_left hi;have D:NamesJ N c.b n H.length H.length [] (H++[Blk.box [AV.p (.sl .nil 1 [])]]):=⟨h.keep λi hi=>s i (h.foot_lt hi),λi hi=>h.foot_lt hi,Nat.le_refl _,.inl ⟨rfl,by simp⟩,λq m w=>by grind⟩;let⟨a,o,j,k⟩:=IM (Nm u c.b n H.length H.length) (wv:=.p (.clo 416 [])) (mv:=.clo 415 [.bx H.length 0]) rfl rfl 21 [] c (.p (.sl .nil 1 [])) [] _ x (λt d G=>by have :=(u.deep t d (by grind)).1;omega) (by simp) (by grind) D (.inl ⟨rfl,rfl⟩);have l:Ext0 H a:=by refine⟨by have :=k.1;grind,λi hi=>?_⟩;rw[(k.2 i (by grind) (λB=>?_)).1,s i hi];rcases B with rfl|⟨m,w⟩;all_goals grind
 have z:((List.length ([]:Path):Nat):Int)=0:=rfl;rw[z]at o;have b:∀v,(∃r,a[H.length]?=some (.box (v::r)))->(∀r,boxK (some (.box (v::r)))=some (v::r))->resW Γ 397 [.bx c.b 0] H=some ([v],a):=by rintro v⟨r,C⟩e;have y:=e r;refine ah (fn:=iS) rfl rfl ?_;simp(disch:=first|exact Dq|fail)only[go_sem,iS,CO,o,C,y]
 rcases j.row with⟨f,g⟩|⟨f,q,g,A⟩;·exact⟨_,a,b _ ⟨_,g⟩ (λ_=>rfl),.inl ⟨f,rfl⟩,l⟩
 ·exact⟨_,a,b _ ⟨_,g⟩ (λ_=>rfl),.inr ⟨f,q,rfl,A⟩,l⟩
def jU(N:Tri)(p:Path)(k:List UInt8)(b m:Nat):Tri:=λq=>if q=p then(N p).map λnd=>{nd with kids:=nd.kids++[(k,b)]}else if q=p++[k]then some ⟨b,m,false,[]⟩else N q
theorem RD{p:Path}{k:List UInt8}:p++[k]≠p:=λe=>by simp_all
def Chg(N N':Tri)(H H':Heap):Prop:=H.length<=H'.length/\(∀i,i<H.length->¬Foot N i->H'[i]?=H[i]?)/\∀i,Foot N' i->Foot N i\/H.length<=i
theorem Chg.refl(N:Tri)(H:Heap):Chg N N H H:=⟨Nat.le_refl _,λ_ _ _=>rfl,λ_ h=>.inl h⟩
theorem Chg.trans{N d f:Tri}{H g e:Heap}(a:Chg N d H g)(b:Chg d f g e):Chg N f H e:=⟨Nat.le_trans a.1 b.1,λi hi j=>(b.2.1 i (Nat.lt_of_lt_of_le hi a.1) (λh=>by rcases a.2.2 i h with h|h;all_goals grind)).trans (a.2.1 i hi j),λi h=>by
  rcases b.2.2 i h with h|h;·exact a.2.2 i h
  ·have :=a.1;grind⟩
theorem JH{H:Heap}{N:Tri}{r n:Nat}(h:Lies H N r n){p:Path}{g:Nd}(u:N p=some g){k:List UInt8}(hk:N (p++[k])=none):Lies ((H++[Blk.box (ak [])]++[Blk.box [.mp H.length,.p (.bool false)]]).set g.m (Blk.box (ak (mI g.kids++[(PV.str k,AV.bx (H.length+1) 0)])))) (jU N p k (H.length+1) H.length) r n/\Chg N (jU N p k (H.length+1) H.length) H ((H++[Blk.box (ak [])]++[Blk.box [.mp H.length,.p (.bool false)]]).set g.m (Blk.box (ak (mI g.kids++[(PV.str k,AV.bx (H.length+1) 0)])))):=by
 have U:g.m<H.length:=(List.getElem?_eq_some_iff.1 (h.map p g u)).1;generalize J:(H++[Blk.box (ak [])]++[Blk.box [.mp H.length,.p (.bool false)]]).set g.m (Blk.box (ak (mI g.kids++[(PV.str k,AV.bx (H.length+1) 0)])))=C;have E:∀i,i<H.length->i≠g.m->C[i]?=H[i]?:=λi hi G=>by grind
 have Q:C[g.m]?=some (Blk.box (ak (mI g.kids++[(PV.str k,AV.bx (H.length+1) 0)]))):=by grind
 have P:C[H.length]?=some (Blk.box (ak [])):=by grind
 have Y:C[H.length+1]?=some (Blk.box [.mp H.length,.p (.bool false)]):=by rw[<-J,List.getElem?_set_ne (by omega),List.append_assoc,List.getElem?_append_right (by omega),show H.length+1-H.length=1 by omega];rfl
 have K:H.length+2=C.length:=by grind
 have a1:jU N p k (H.length+1) H.length p=some {g with kids:=g.kids++[(k,H.length+1)]}:=by simp[jU,u]
 have W:jU N p k (H.length+1) H.length (p++[k])=some ⟨H.length+1,H.length,false,[]⟩:=by simp[jU]
 have T:∀q,q≠p->q≠p++[k]->jU N p k (H.length+1) H.length q=N q:=λq m s=>by simp[jU,m,s]
 have t:∀q c,jU N p k (H.length+1) H.length q=some c->(q=p/\c={g with kids:=g.kids++[(k,H.length+1)]})\/(q=p++[k]/\c=⟨H.length+1,H.length,false,[]⟩)\/(q≠p/\q≠p++[k]/\N q=some c):=by
  intro q c f;by_cases I:q=p;·grind
  ·by_cases M:q=p++[k];all_goals grind
 have o:∀q c,jU N p k (H.length+1) H.length q=some c->(q=p++[k]/\c.b=H.length+1/\c.m=H.length)\/∃l,N q=some l/\c.b=l.b/\c.m=l.m:=by intro q c f;rcases t q c f with⟨rfl,rfl⟩|⟨rfl,rfl⟩|⟨_,_,d⟩;all_goals grind
 have A:∀q l,N q=some l->l.b<H.length/\l.m<H.length:=λq l f=>⟨(List.getElem?_eq_some_iff.1 (h.box q l f)).1,(List.getElem?_eq_some_iff.1 (h.map q l f)).1⟩;refine⟨⟨?_,λq c f=>?_,λq c f=>?_,λq c f z O y=>?_,λq z c f=>?_,λq c f=>?_,λq B c j f w e=>?_,λq B c j f w e=>?_,λq B c j f w e=>?_⟩,by omega,λi hi R=>E i hi (λe=>R ⟨p,g,u,.inr e.symm⟩),λi hi=>?_⟩
 ·let⟨l,h0,m⟩:=h.root;by_cases I:p=[];all_goals grind
 ·rcases t q c f with⟨rfl,rfl⟩|⟨rfl,rfl⟩|⟨m,s,d⟩;·have F:=h.box _ g u;exact(E g.b (A _ _ u).1 (h.sep _ _ _ _ u u)).trans F
  ·rw[uB (by simp)];grind
  ·exact(E c.b (A _ _ d).1 (h.sep _ _ _ _ d u)).trans (h.box _ _ d)
 ·rcases t q c f with⟨rfl,rfl⟩|⟨rfl,rfl⟩|⟨m,s,d⟩;·rw[Q];simp[mI]
  ·exact P
  ·exact(E c.m (A _ _ d).2 (λe=>m (h.injm _ _ _ _ d u e))).trans (h.map _ _ d)
 ·rcases t q c f with⟨rfl,rfl⟩|⟨rfl,rfl⟩|⟨m,s,d⟩
  ·rcases List.mem_append.1 y with y|y
   ·let⟨j,v,D⟩:=h.kid _ g u z O y;have G:z≠k:=λe=>by grind
    simp[*]
   grind
  ·grind
  ·let⟨j,v,D⟩:=h.kid q c d z O y;by_cases I:q++[z]=p;all_goals grind
 ·rcases t _ c f with⟨e,rfl⟩|⟨e,rfl⟩|⟨m,s,d⟩;·let⟨j,v,D⟩:=h.up q z g (by grind);refine⟨j,(T q (λM=>?_) (λM=>?_)).trans v,D⟩;all_goals simp_all
  ·simp_all
  ·let⟨j,v,D⟩:=h.up q z c d;by_cases I:q=p;all_goals grind
 ·rcases t q c f with⟨rfl,rfl⟩|⟨rfl,rfl⟩|⟨m,s,d⟩;·simp[List.map_append,List.map_cons,List.map_nil];refine List.nodup_append.2 ⟨h.nodup _ g u,by simp,λa V b F e=>?_⟩;simp[List.mem_singleton]at F;subst F;subst e;obtain⟨x,S,rfl⟩:=List.mem_map.1 V;let⟨j,v,_⟩:=h.kid _ g u x.1 x.2 S;grind
  ·simp
  ·exact h.nodup q c d
 ·rcases o q c f with⟨m,s,_⟩|⟨n1,m,s,_⟩<;>rcases o B j w with⟨d,v,_⟩|⟨L,d,v,_⟩;·grind
  ·grind
  ·grind
  ·exact h.injb _ _ _ _ m d (by omega)
 ·rcases o q c f with⟨m,_,s⟩|⟨n1,m,_,s⟩<;>rcases o B j w with⟨d,_,v⟩|⟨L,d,_,v⟩;·grind
  ·grind
  ·grind
  ·exact h.injm _ _ _ _ m d (by omega)
 ·rcases o q c f with⟨m,s,_⟩|⟨n1,m,s,_⟩<;>rcases o B j w with⟨d,_,v⟩|⟨L,d,_,v⟩;·omega
  ·grind
  ·grind
  ·exact h.sep _ _ _ _ m d (by omega)
 ·let⟨q,c,f,X⟩:=hi;rcases o q c f with⟨_,s,d⟩|⟨n1,m,s,d⟩;·omega
  ·exact .inl ⟨q,n1,m,by omega⟩
theorem step_ok{H:Heap}{N:Tri}{r n:Nat}(h:Lies H N r n){p:Path}{b:Nd}(c:N p=some b)(k:List UInt8):∃d l a,resW Γ 420 [.bx b.b 0,.p (.str k)] H=some ([.bx a.b 0],l)/\Lies l d r n/\d (p++[k])=some a/\(∀q,(∃x,d q=some x)↔(∃x,N q=some x)\/q=p++[k])/\(∀q,bZ d q=bZ N q)/\Chg N d H l:=by have s:=h.box p b c;have m:=h.map p b c;have j:=h.find c k;cases e:N (p++[k])with
 |some a=>rw[e]at j;exact⟨N,H,a,step_old H b.b b.m a.b _ k _ s m j,h,e,λq=>⟨λo=>.inl o,λo=>by grind⟩,λ_=>rfl,.refl _ _⟩|none=>
  rw[e]at j;let⟨u,t⟩:=JH h c e;refine⟨_,_,⟨H.length+1,H.length,false,[]⟩,step_new H b.b b.m _ k _ s m j,u,by simp[jU],λq=>?_,λq=>?_,t⟩
  ·by_cases g:q=p;·subst g;simp[jU,c]
   ·by_cases f:q=p++[k];·subst f;simp[jU]
    ·simp[jU,g,f]
  ·by_cases g:q=p;·subst g;simp[bZ,jU,c]
   ·by_cases f:q=p++[k];·subst f;simp[bZ,jU,e]
    ·simp[bZ,jU,g,f]
abbrev Tok:=Bool×List Bool
def inT(t:Tok)(c:UInt8):Bool:=t.2.getD c.toNat false
def M1(t:Tok)(a:List UInt8):Prop:=if t.1=true then True else∃c,a=[c]/\inT t c=true
def Mt:List Tok->List UInt8->Prop|[],s=>s=[]|t::ts,s=>∃a b,s=a++b/\M1 t a/\Mt ts b
theorem sO{ts us:List Tok}{s:List UInt8}:Mt (ts++us) s↔∃a b,s=a++b/\Mt ts a/\Mt us b:=by induction ts generalizing s with
 |nil=>
  constructor;·exactλh=>⟨[],s,rfl,rfl,h⟩
  ·rintro⟨a,b,rfl,j,m⟩;have j:a=[]:=j;grind|cons t ts i=>
  constructor;·rintro⟨a,b,rfl,g,f⟩;obtain⟨c,d,rfl,e,k⟩:=i.1 f;exact⟨a++c,d,(List.append_assoc _ _ _).symm,⟨a,c,rfl,g,e⟩,k⟩
  ·rintro⟨a,b,rfl,⟨c,d,rfl,g,f⟩,e⟩;exact⟨c,d++b,List.append_assoc _ _ _,g,i.2 ⟨d,b,rfl,f,e⟩⟩
theorem CX{t:Tok}{ts:List Tok}{s:List UInt8}(h:t.1=true):Mt (t::ts) s↔∃j,j<=s.length/\Mt ts (s.drop j):=by
 constructor;·rintro⟨a,b,rfl,_,c⟩;exact⟨a.length,by simp,by grind⟩
 ·rintro⟨j,_,c⟩;exact⟨s.take j,s.drop j,(List.take_append_drop j s).symm,by simp[M1,h],c⟩
theorem uT{t:Tok}{ts:List Tok}{s:List UInt8}(h:t.1=false):Mt (t::ts) s↔∃c r,s=c::r/\inT t c=true/\Mt ts r:=by
 constructor;·rintro⟨a,b,rfl,e,d⟩;simp[M1,]at e;grind
 ·rintro⟨c,r,rfl,f,d⟩;exact⟨[c],r,rfl,by simp[M1,];grind,d⟩
theorem qX{ts:List Tok}{s:List UInt8}(h:∀t∈ts,t.1=false)(a:Mt ts s):s.length=ts.length:=by induction ts generalizing s with|nil=>have a:s=[]:=a;grind|cons t ts e=>obtain⟨c,r,rfl,_,b⟩:=(uT (h t (by simp))).1 a;grind
theorem Mt_nil_iff{ts:List Tok}:Mt ts []↔∀t∈ts,t.1=true:=by induction ts with|nil=>simp[Mt]|cons t ts b=>
  cases h:t.1;·rw[uT h];grind
  ·rw[CX h];simp[*]
structure Greedy(T:List Tok)(S:List UInt8)(at_ st from_ i:Nat):Prop where
 hi:i<=S.length
 ha:at_<=T.length
 none:st=0->(Mt T S↔Mt (T.drop at_) (S.drop i))some:0<st->st<=at_/\from_<=i/\at_-st=i-from_/\(∀t∈(T.take at_).drop st,t.1=false)/\Mt ((T.take at_).drop st) ((S.take i).drop from_)/\(Mt T S↔∃j,from_<=j/\j<=S.length/\Mt (T.drop st) (S.drop j))
theorem kM{c:Type}{l:List c}{a b:Nat}(h:a<=b):l.drop a=(l.take b).drop a++l.drop b:=by
 conv=>lhs;rw[<-List.take_append_drop b l]
 by_cases e:b<=l.length;·grind
 ·rw[List.take_of_length_le (by omega),List.drop_eq_nil_of_le (show l.length<=b by omega),List.append_nil,List.append_nil]
theorem IC{T:List Tok}{S:List UInt8}:Greedy T S 0 0 0 0:=⟨Nat.zero_le _,Nat.zero_le _,λ_=>by simp,λh=>absurd h (by omega)⟩
theorem ID{T:List Tok}{S:List UInt8}{c st d i:Nat}(g:Greedy T S c st d i){t:Tok}(u:T[c]?=some t)(p:t.1=true):Greedy T S (c+1) (c+1) i i:=by
 have k:=(List.getElem?_eq_some_iff.1 u).1;have s:T.drop c=t::T.drop (c+1):=by rw[List.drop_eq_getElem_cons k,(List.getElem?_eq_some_iff.1 u).2]
 have f:Mt (T.drop c) (S.drop i)↔∃j,i<=j/\j<=S.length/\Mt (T.drop (c+1)) (S.drop j):=by
  rw[s,CX p];constructor;·rintro⟨j,l,n⟩;rw[List.length_drop]at l;have :=g.hi;exact⟨i+j,by omega,by omega,by simp_all⟩
  ·rintro⟨j,l,n,C⟩;refine⟨j-i,by grind,?_⟩;simp[*]
 refine⟨g.hi,k,λh=>absurd h (by omega),λ_=>⟨Nat.le_refl _,Nat.le_refl _,by omega,?_,?_,?_⟩⟩;·simp
 ·rw[List.drop_eq_nil_of_le (by grind),List.drop_eq_nil_of_le (by grind)];rfl
 ·by_cases B:st=0;·rw[g.none B,f]
  ·let⟨l,n,C,y,D,z⟩:=g.some (by omega);rw[z];have r:T.drop st=(T.take c).drop st++T.drop c:=kM l;have w:((T.take c).drop st).length=c-st:=by grind
   constructor
   ·rintro⟨j,k1,k2,m⟩;rw[r,sO]at m;let⟨a,b,e,x,o⟩:=m;have v:=qX y x;rw[w]at v;rw[s,CX p]at o;let⟨q,E,F⟩:=o;have lb:S.length-j=a.length+b.length:=by have :=congrArg List.length e;grind
    refine⟨j+a.length+q,by omega,by omega,?_⟩;have A:S.drop (j+a.length)=b:=by rw[<-List.drop_drop,e,List.drop_append_of_le_length (Nat.le_refl _),List.drop_length,List.nil_append]
    have G:S.drop (j+a.length+q)=b.drop q:=by rw[<-A,List.drop_drop]
    grind
   ·rintro⟨j,k1,k2,m⟩;refine⟨d,Nat.le_refl _,by grind,?_⟩;rw[r,sO];exact⟨(S.take i).drop d,S.drop i,kM n,D,f.2 ⟨j,k1,k2,m⟩⟩
theorem OT{T:List Tok}{S:List UInt8}{b st a i:Nat}(g:Greedy T S b st a i){t:Tok}{c:UInt8}(l:T[b]?=some t)(m:t.1=false)(k:S[i]?=some c)(o:inT t c=true):Greedy T S (b+1) st a (i+1):=by
 have d:=(List.getElem?_eq_some_iff.1 l).1;have e:=(List.getElem?_eq_some_iff.1 k).1;have r:T.drop b=t::T.drop (b+1):=by rw[List.drop_eq_getElem_cons d,(List.getElem?_eq_some_iff.1 l).2]
 have f:S.drop i=c::S.drop (i+1):=by rw[List.drop_eq_getElem_cons e,(List.getElem?_eq_some_iff.1 k).2]
 refine⟨e,d,λh=>?_,λh=>?_⟩;·rw[g.none h,r,f,uT m];grind
 ·let⟨y,w,x,v,s,n⟩:=g.some h;have p:(T.take (b+1)).drop st=(T.take b).drop st++[t]:=by grind
  have q:(S.take (i+1)).drop a=(S.take i).drop a++[c]:=by grind
  have j:st<=b+1/\a<=i+1/\b+1-st=i+1-a:=by grind
  refine⟨j.1,j.2.1,j.2.2,?_,?_,n⟩;·grind
  ·rw[p,q,sO];exact⟨_,_,rfl,s,(uT m).2 ⟨c,[],rfl,o,rfl⟩⟩
def Jn(T:List Tok)(S:List UInt8)(at_ i:Nat):Prop:=(at_=T.length\/∃t c,T[at_]?=some t/\t.1=false/\S[i]?=some c/\inT t c=false)/\i<S.length
theorem Lb{T:List Tok}{S:List UInt8}{a i:Nat}(h:Jn T S a i):¬Mt (T.drop a) (S.drop i):=by
 let⟨b,k⟩:=h;rcases b with b|⟨t,c,g,l,j,o⟩;·subst b;rw[List.drop_length];intro e;have e:=e;have :=congrArg List.length e;grind
 ·have d:=(List.getElem?_eq_some_iff.1 g).1;have m:T.drop a=t::T.drop (a+1):=by rw[List.drop_eq_getElem_cons d,(List.getElem?_eq_some_iff.1 g).2]
  have f:S.drop i=c::S.drop (i+1):=by rw[List.drop_eq_getElem_cons k,(List.getElem?_eq_some_iff.1 j).2]
  rw[m,f,uT l];grind
theorem IE{T:List Tok}{S:List UInt8}{d st c i:Nat}(g:Greedy T S d st c i)(q:0<st)(h:Jn T S d i):Greedy T S st st (c+1) (c+1):=by
 let⟨m,z,u,n,A,o⟩:=g.some q;have y:=Lb h;refine⟨by have :=h.2;omega,by have :=g.ha;omega,λh=>absurd h (by omega),λ_=>⟨Nat.le_refl _,Nat.le_refl _,by omega,?_,?_,?_⟩⟩;·simp
 ·rw[List.drop_eq_nil_of_le (by grind),List.drop_eq_nil_of_le (by grind)];rfl
 ·rw[o];constructor
  ·rintro⟨j,k1,k2,f⟩;refine⟨j,?_,k2,f⟩;rcases Nat.lt_or_ge c j with r|r;·grind
   ·exfalso;have :j=c:=by omega
    subst this;rw[kM m,sO]at f;let⟨a,b,e,s,t⟩:=f;have p:=qX n s;rw[List.length_drop,List.length_take]at p;have x:=g.ha;have l:i=j+a.length:=by grind
    have v:S.drop i=b:=by rw[l,<-List.drop_drop,e,List.drop_append_of_le_length (Nat.le_refl _),List.drop_length,List.nil_append]
    grind
  grind
theorem Ho{T:List Tok}{S:List UInt8}{b a i:Nat}(g:Greedy T S b 0 a i)(h:Jn T S b i):¬Mt T S:=by rw[g.none rfl];exact Lb h
theorem MG{T:List Tok}{S:List UInt8}{d st c:Nat}(g:Greedy T S d st c S.length):Mt T S↔∀t∈T.drop d,t.1=true:=by
 by_cases r:st=0;·rw[g.none r,List.drop_length,Mt_nil_iff]
 ·let⟨f,i,u,p,s,o⟩:=g.some (by omega);rw[o];constructor
  ·rintro⟨j,k1,k2,l⟩;rw[kM f,sO]at l;let⟨a,b,e,n,m⟩:=l;have q:=qX p n;rw[List.length_drop,List.length_take]at q;have lb:S.length-j=a.length+b.length:=by have :=congrArg List.length e;grind
   have v:=g.ha;have :b=[]:=List.eq_nil_of_length_eq_zero (by omega);subst this;exact Mt_nil_iff.1 m
  ·intro h;refine⟨c,Nat.le_refl _,i,?_⟩;rw[kM f,sO];refine⟨(S.take S.length).drop c,S.drop S.length,kM i,s,?_⟩;rw[List.drop_length];exact Mt_nil_iff.2 h
theorem oV{ts:List Tok}{t:Tok}{s:List UInt8}(h:t.1=true):Mt (ts++[t]) s↔∃j,j<=s.length/\Mt ts (s.take j):=by
 rw[sO];constructor;·rintro⟨a,b,rfl,c,d⟩;exact⟨a.length,by simp,by grind⟩
 ·rintro⟨j,_,c⟩;exact⟨s.take j,s.drop j,(List.take_append_drop j s).symm,c,(CX h).2 ⟨(s.drop j).length,Nat.le_refl _,by rw[List.drop_length];rfl⟩⟩
theorem Pe{ts:List Tok}{t:Tok}{s:List UInt8}{k:Nat}(h:t.1=true)(e:k<s.length):Mt (ts++[t]) (s.take (k+1))↔Mt ts (s.take (k+1))\/Mt (ts++[t]) (s.take k):=by
 rw[oV h,oV h];simp[];constructor
 ·rintro⟨j,a,b⟩;by_cases d:j=k+1;·grind
  ·exact .inr ⟨j,by omega,by grind⟩
 ·rintro(a|⟨j,a,b⟩);·exact⟨k+1,by omega,by grind⟩
  ·exact⟨j,by omega,by grind⟩
theorem Ji{ts:List Tok}{t:Tok}{s:List UInt8}(h:t.1=true):Mt (ts++[t]) (s.take 0)↔Mt ts (s.take 0):=by rw[oV h];simp
theorem SZ{ts:List Tok}{t:Tok}{s:List UInt8}{k:Nat}{c:UInt8}(h:t.1=false)(i:s[k]?=some c):Mt (ts++[t]) (s.take (k+1))↔Mt ts (s.take k)/\inT t c=true:=by
 have e:s.take (k+1)=s.take k++[c]:=by rw[List.take_add_one,i];rfl
 rw[e,sO];constructor;·rintro⟨a,b,l,f,d⟩;obtain⟨x,r,rfl,j,g⟩:=(uT h).1 d;have g:r=[]:=g;simp_all
 ·rintro⟨f,d⟩;exact⟨_,_,rfl,f,(uT h).2 ⟨c,[],rfl,d,rfl⟩⟩
theorem MC{ts:List Tok}{t:Tok}{s:List UInt8}(h:t.1=false):¬Mt (ts++[t]) (s.take 0):=by rw[List.take_zero,sO];rintro⟨a,b,e,_,c⟩;obtain⟨x,r,rfl,_,_⟩:=(uT h).1 c;simp_all
end Ab
