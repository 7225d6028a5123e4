import Derived.Test.YtbehhmffelnmfaaGreatDoorAbLate
set_option linter.all false
namespace Ab
open Go (Act Exit Oper Program Value World undef)
section


variable{Γ:Ctx}{cal:Nat->List AV->Heap->Option (List AV×Heap)}
structure Course(Γ:Ctx)(cal:Nat->List AV->Heap->Option (List AV×Heap))(sts:List St)(E:Nat->Env)(hp:Nat->Heap)(val:Nat->AV):Prop where one:∀(i:Nat)s,sts[i]?=some s->gx Γ cal s (look (E i)) (hp i)=some (val i,hp (i+1))env:∀(i:Nat)s,sts[i]?=some s->E (i+1)=put (E i) s.dst (val i)
theorem zu:∀(c:List St){b a:Env}{H f:Heap},iA Γ cal c b H=some (a,f)->∃E e d,Course Γ cal c E e d/\E 0=b/\e 0=H/\E c.length=a/\e c.length=f
 |[],b,a,H,f,h=>by simp[iA,]at h;obtain⟨rfl,rfl⟩:=h;exact⟨λ_=>b,λ_=>H,λ_=>.any,⟨by simp,by simp⟩,rfl,rfl,rfl,rfl⟩|s::c,b,a,H,f,h=>by
  rw[Bu,Option.bind_eq_some_iff]at h;let⟨⟨v,p⟩,t,m⟩:=h;let⟨E,e,d,j,r,q,l,o⟩:=zu c m;refine⟨λi=>match i with|0=>b|i+1=>E i,λi=>match i with|0=>H|i+1=>e i,λi=>match i with|0=>v|i+1=>d i,⟨λi g n=>?_,λi g n=>?_⟩,rfl,rfl,l,o⟩;·cases i with|zero=>grind|succ i=>exact j.one i g (by grind)
  ·cases i with|zero=>grind|succ i=>exact j.env i g (by grind)
def nQ(sts:List St)(k:Nat):Option Nat:=(sts[k]?).bind (·.dst)
def qK(sts:List St)(L:Nat->Bool)(t:Nat):Nat->Nat|0=>0|k+1=>if L k=true/\nQ sts k=some t then k+1 else qK sts L t k
theorem qE{sts:List St}{L L':Nat->Bool}{t:Nat}:∀n,(∀k<n,nQ sts k=some t->L k=L' k)->qK sts L t n=qK sts L' t n
 |0,_=>rfl|n+1,h=>by
  have ih:=qE n λk hk=>h k (by omega);unfold qK;by_cases hd:nQ sts n=some t;·rw[h n (by omega) hd,ih]
  ·simp only[hd,and_false,if_false];exact ih
theorem CB{a:List St}{L:Nat->Bool}{t i:Nat}(e:L i=true)(j:nQ a i=some t):∀n,i<n->(∀k,i<k->k<n->nQ a k=some t->L k=false)->qK a L t n=i+1
 |0,h,_=>by omega|n+1,h,g=>by
  unfold qK;by_cases l:i=n;·grind
  ·have b:¬(L n=true/\nQ a n=some t):=λ⟨c,f⟩=>by grind
   rw[if_neg b];exact CB e j n (by omega) λk c f=>g k c (by omega)
theorem Course.agree{a:List St}{E:Nat->Env}{l:Nat->Heap}{b:Nat->AV}(c:Course Γ cal a E l b){L:Nat->Bool}{t i:Nat}(f:∀k,nQ a k=some t->(L k=true↔k<i)):∀j,j<=a.length->look (E (qK a L t j)) t=look (E (min i j)) t
 |0,_=>by simp[qK]|j+1,n=>by
  have e:=c.agree f j (by omega);have d:a[j]?=some a[j]:=List.getElem?_eq_getElem (by omega);have g:=c.env j _ d;have m:nQ a j=(a[j]).dst:=by simp[nQ,d]
  unfold qK;by_cases h:L j=true/\nQ a j=some t;·grind
  ·rw[if_neg h,e];by_cases hi:i<=j;·grind
   ·rw[show min i j=j by omega,show min i (j+1)=j+1 by omega,g,sa];grind
theorem Course.quiet{a:List St}{E:Nat->Env}{d:Nat->Heap}{b:Nat->AV}(g:Course Γ cal a E d b){i:Nat}{s:St}(f:a[i]?=some s)(e:isX s.op=false):d (i+1)=d i:=by
 have h:=g.one i s f;simp[gx]at h;split at h;·grind
 ·grind
 ·split at h;·simp[]at h;grind
  ·rename_i x c;rw[c]at e;cases x<;>first|(cases e;done)|skip
   simp[evX,]at h;grind
theorem Course.between{a:List St}{E:Nat->Env}{b:Nat->Heap}{c:Nat->AV}(d:Course Γ cal a E b c){k:Nat}:∀i,k<=i->i<=a.length->(∀(m:Nat)s,k<=m->m<i->a[m]?=some s->isX s.op=false)->b i=b k
 |0,h,_,_=>by grind|i+1,h,hi,e=>by
  by_cases l:k=i+1;·grind
  ·have f:a[i]?=some a[i]:=List.getElem?_eq_getElem (by omega);rw[d.quiet f (e i _ (by omega) (by omega) f)];exact d.between i (by omega) (by omega) λm s g j=>e m s g (by omega)
theorem Nl{s:St}{σ:Nat->AV}{H b f:Heap}{v:AV}(a:qA s.op=true)(h:gx Γ cal s σ H=some (v,f)):gx Γ cal s σ b=some (v,b):=by
 unfold gx at*;split at h;·grind
 ·grind
 ·cases c:s.op with|inr x=>
   rw[c]at a h;cases x<;>first|(cases a;done)|skip
   simp[evX,]at h;obtain⟨d,h,rfl,_⟩:=h;simp[evX,h,]|inl q=>
   rw[c]at a h;simp[]at h;obtain⟨d,h,rfl,_⟩:=h;have e:evQ Γ cal σ b q=evQ Γ cal σ H q:=by cases q<;>first|rfl|cases a
   grind
theorem evOne_up{s:St}{σ:Nat->AV}{H E d:Heap}{v:AV}(b:isX s.op=false)(h:gx Γ cal s σ H=some (v,d)):gx Γ cal s σ (H++E)=some (v,H++E):=by
 unfold gx at*;split at h;·grind
 ·grind
 ·cases c:s.op with|inr x=>
   rw[c]at b h;cases x<;>first|(cases b;done)|skip
   simp[evX,]at h;obtain⟨e,h,rfl,_⟩:=h;simp[evX,h,]|inl q=>rw[c]at h;simp[]at h;obtain⟨e,h,rfl,_⟩:=h;simp[evQ_up h,]
mutual
theorem LP:∀{a b:PV},eqP a b=true->a=b
 |.int _ _,b,h=>by cases b<;>simp_all[eqP]|.bool _,b,h=>by cases b<;>simp_all[eqP]|.str _,b,h=>by cases b<;>simp_all[eqP]|.nilp,b,h=>by cases b<;>simp_all[eqP]|.nilfn,b,h=>by cases b<;>simp_all[eqP]|.nilmap,b,h=>by cases b<;>simp_all[eqP]|.clo _ xs,b,h=>by cases b with|clo g ys=>simp only[eqP,Bool.and_eq_true,beq_iff_eq]at h;rw[h.1,mC h.2]|_=>simp[eqP]at h
 |.sl _ _ xs,b,h=>by cases b with|sl k sz ys=>simp only[eqP,Bool.and_eq_true,beq_iff_eq,decide_eq_true_eq]at h;rw[h.1.1,h.1.2,mC h.2]|_=>simp[eqP]at h
 |.ptr xs,b,h=>by cases b with|ptr ys=>simp only[eqP]at h;rw[mC h]|_=>simp[eqP]at h
 |.agg xs,b,h=>by cases b with|agg ys=>simp only[eqP]at h;rw[mC h]|_=>simp[eqP]at h
theorem mC:∀{a b:List PV},eqPs a b=true->a=b
 |[],[],_=>rfl|a::r,b::q,h=>by simp only[eqPs,Bool.and_eq_true]at h;rw[LP h.1,mC h.2]|[],_::_,h=>by simp[eqPs]at h|_::_,[],h=>by simp[eqPs]at h
end
mutual
theorem eqA_spec:∀{a b:AV},eqA a b=true->a=b
 |.p x,b,h=>by cases b with|p y=>simp only[eqA]at h;rw[LP h]|_=>simp[eqA]at h
 |.own _ _,b,h=>by cases b<;>simp_all[eqA]|.bx _ _,b,h=>by cases b<;>simp_all[eqA]|.el _ _ _ _,b,h=>by cases b<;>simp_all[eqA]|.mp _,b,h=>by cases b<;>simp_all[eqA]|.nov,b,h=>by cases b<;>simp_all[eqA]|.any,b,h=>by cases b<;>simp_all[eqA]|.agg xs,b,h=>by cases b with|agg ys=>simp only[eqA]at h;rw[mE h]|_=>simp[eqA]at h
 |.tup xs,b,h=>by cases b with|tup ys=>simp only[eqA]at h;rw[mE h]|_=>simp[eqA]at h
 |.clo _ xs,b,h=>by cases b with|clo g ys=>simp only[eqA,Bool.and_eq_true,beq_iff_eq]at h;rw[h.1,mE h.2]|_=>simp[eqA]at h
theorem mE:∀{a b:List AV},eqAs a b=true->a=b
 |[],[],_=>rfl|a::r,b::q,h=>by simp only[eqAs,Bool.and_eq_true]at h;rw[eqA_spec h.1,mE h.2]|[],_::_,h=>by simp[eqAs]at h|_::_,[],h=>by simp[eqAs]at h
end
theorem eqB_spec:∀{a b:Blk},eqB a b=true->a=b|.box _,.box _,h=>by simp[eqB]at h;rw[mE h]|.row _ _ _,.row _ _ _,h=>by simp[eqB,]at h;rw[h.1.1,h.1.2,mC h.2]|.dead,.dead,_=>rfl|.box _,.row _ _ _,h=>by cases h|.box _,.dead,h=>by cases h|.row _ _ _,.box _,h=>by cases h|.row _ _ _,.dead,h=>by cases h|.dead,.box _,h=>by cases h|.dead,.row _ _ _,h=>by cases h
theorem FG:∀{H a:Heap},preB H a=true->∃X,a=H++X
 |[],a,_=>⟨a,rfl⟩|b::r,c::q,h=>by simp[preB,]at h;let⟨X,e⟩:=FG h.2;exact⟨X,by rw[eqB_spec h.1,e];rfl⟩|_::_,[],h=>by cases h
theorem Course.more{a:List St}{E:Nat->Env}{f:Nat->Heap}{d:Nat->AV}(g:Course Γ cal a E f d){i:Nat}{s:St}(k:a[i]?=some s)(m:isX s.op=true->ur s.op=true):∃X,f (i+1)=f i++X:=by cases c:isX s.op with|false=>exact⟨[],by rw[g.quiet k c,List.append_nil]⟩|true=>
  have j:=m c;have h:=g.one i s k;simp[gx]at h;split at h;·grind
  ·simp_all
  ·cases b:s.op with|inl q=>rw[b]at c;cases c|inr x=>
    rw[b]at h j;cases x<;>try cases j
    case h_3.inr.callwr.refl=>simp only[evX,Dh,Option.map_eq_some_iff,Option.bind_eq_some_iff,ifB_some,Prod.mk.injEq]at h;let⟨r,⟨p,_,l,e⟩,_,n⟩:=h;cases e;let⟨X,o⟩:=FG l;grind
    case h_3.inr.brow.refl=>simp[]at h;let⟨cs,_,h⟩:=Option.bind_eq_some_iff.1 h;let⟨ps,_,h⟩:=Option.bind_eq_some_iff.1 h;grind
    all_goals simp[evX,]at h;grind
theorem zt:∀{L:List Nat}{c:List Blk}{H:Heap}{a:Nat},a∉L->(dz H L c)[a]?=H[a]?
 |[],c,H,a,_=>by cases c<;>rfl|x::L,[],H,a,_=>rfl|x::L,b::c,H,a,h=>by simp[dz];rw[zt (λe=>h (by grind))];grind
theorem Uq{H c:Heap}{f:AV}{d rs:List AV}{b:Nat×List AV}{a:Nat}(i:callee f=some b)(g:a<H.length)(e:a∉fP H 64 ((d++b.2).flatMap AV.refs) [])(h:AO Γ cal H f d=some (rs,c)):c[a]?=H[a]?:=by unfold AO at h;rw[i]at h;simp only[Option.bind_some,ifB_some,Option.bind_eq_some_iff]at h;let⟨_,j,_,HL,_,r,_,k,_,h⟩:=h;simp only[vS,Option.bind_eq_some_iff,Option.map_eq_some_iff,]at h;obtain⟨_,_,l,_,_,rfl⟩:=h;rw[List.getElem?_append_left (by rw[ii];grind),zt e]
theorem tQ{H:Heap}{L:List Nat}{c:List AV}{a b:Nat}(h:vw H L c=true)(d:.bx a b∈c):a<H.length/\a∉L:=by have :=List.all_eq_true.1 h _ d;grind
theorem Oq{H e:Heap}{sz b c:Nat}{x v:AV}{d:List AV}(h:ui H sz x v d=some e)(f:.bx b c∈d):e[b]?=H[b]?:=by
 simp[ui,ifB_some]at h;let⟨g,a⟩:=h;have j:=tQ g f;unfold oy at a;split at a;·let⟨_,_,a⟩:=Option.bind_eq_some_iff.1 a;grind
 ·split at a;·simp[Option.bind_eq_some_iff,]at a;grind
  grind
 grind
theorem LN:∀{L:List Nat}{H:Heap}{a:Nat},a∉L->(kill H L)[a]?=H[a]?
 |[],_,_,_=>rfl|x::L,H,a,h=>by simp[kill];rw[LN (λc=>h (by grind))];grind
theorem um:∀{xs:List PV}{l:List (List UInt8)},TA xs=some l->xs=l.map .str
 |[],l,h=>by cases h;rfl|x::r,l,h=>by cases x<;>simp only[TA,reduceCtorEq]at h;obtain⟨m,a,rfl⟩:=Option.map_eq_some_iff.1 h;rw[List.map_cons,<-um a]
theorem appk_far{H e:Heap}{sz c d:Nat}{x v:AV}{ys:List PV}{f:List AV}(g:rB H f=true)(i:.bx c d∈f)(h:cH H sz x ys=some (v,e)):e[c]?=H[c]?:=by
 have g:=List.all_eq_true.1 g _ i;have a:∃cs,H[c]?=some (.box cs):=by grind
 let⟨cs,a⟩:=a;unfold cH at h;grind
theorem uQ{H d:Heap}{a:Nat}(h:jl H d a=true):d[a]?=H[a]?/\∀i n,H[a]?=some (.box [.own i n])->rowLen H i n=true/\rowLen d i n=true:=by
 unfold jl at h;split at h;·grind
 ·grind
 ·rename_i b c;simp[]at h;obtain⟨rfl,h⟩:=h;split at h
  ·rename_i l m f g;have h:l=m:=by grind
   subst h;refine⟨by rw[b,c,um f,um g],λi n e=>?_⟩;grind
  grind
 ·rename_i b c;simp[]at h;refine⟨by rw[b,c,mE h.1],λi n e=>?_⟩;rw[b]at e;simp[]at e;subst e;cases h.2
 grind
theorem BD{H c:Heap}{b:List AV}{d a:Nat}(h:keepW H c b=true)(e:.bx d a∈b):jl H c d=true:=List.all_eq_true.1 h _ e
theorem EW{H:Heap}{i n:Nat}(h:rowLen H i n=true):jm H false (.own i n)=some n:=by
 unfold rowLen at h;split at h;·rename_i e;simp[]at h;simp[jm,rowOf,e];grind
 grind
theorem Qk{H d:Heap}{a b:Nat}{x:AV}(h:jl H d a=true):MZ d x (.bx a b)=MZ H x (.bx a b):=by
 let⟨m,j⟩:=uQ h;have i:dj d a=dj H a:=by unfold dj;grind
 show(dj d a).bind _=(dj H a).bind _;rw[i];cases e:dj H a with|none=>rfl|some cs=>
  have k:H[a]?=some (.box cs):=by unfold dj at e;grind
  simp[];cases c:heldC cs x with|false=>rfl|true=>
   unfold heldC at c;split at c;·simp[]at c;obtain⟨rfl,rfl⟩:=c;let⟨g,f⟩:=j _ _ k;rw[EW g,EW f]
   ·rfl
   grind
theorem keep_far{σ:Nat->AV}{H m:Heap}{x:XOp}{v:AV}{t j g:Nat}(h:evX Γ cal σ H x=some (v,m))(b:.v t∈me (.inr x))(a:σ t=.bx j g):m[j]?=H[j]?:=by
 cases x<;>simp[me,]at b;·rename_i f w d;simp only[evX,FC,Option.map_eq_some_iff,Option.bind_eq_some_iff,ifB_some,]at h;obtain⟨⟨rs,o⟩,⟨z,u,i,k⟩,_,rfl⟩:=h;have p:AV.bx j g∈d.map (Arg.ev Γ σ):=List.mem_map.2 ⟨_,b,a⟩;let⟨k1,k2⟩:=tQ i p;exact Uq u k1 k2 k
 ·rename_i f w d;simp only[evX,qW,Option.map_eq_some_iff,Option.bind_eq_some_iff,ifB_some,]at h;obtain⟨r,⟨A,_,i,e⟩,_,rfl⟩:=h;cases e;exact(uQ (BD i (List.mem_map.2 ⟨_,b,a⟩))).1
 ·rename_i sz x y d;simp only[evX,Option.map_eq_some_iff,]at h;obtain⟨o,k,_,rfl⟩:=h;exact Oq k (List.mem_map.2 ⟨_,b,a⟩)
 ·rename_i sz x y d;simp[evX,ifB_some,Option.bind_eq_some_iff]at h;let⟨s,ys,_,h⟩:=h;exact appk_far s (List.mem_map.2 ⟨_,b,a⟩) h
 ·rename_i sz ag n zero parts d;simp only[evX,bslkA,pX,Option.bind_eq_some_iff,ifB_some,gg,Option.map_eq_some_iff,Option.some.injEq,Prod.mk.injEq]at h;obtain⟨l,_,i,B,rfl,q,⟨_,_,_,_,_,_,rfl⟩,_,_,rfl⟩:=h;exact LN (tQ i (List.mem_map.2 ⟨_,b,a⟩)).2
theorem keep_row{σ:Nat->AV}{H d:Heap}{x:XOp}{v:AV}{t i c:Nat}(h:evX Γ cal σ H x=some (v,d))(g:.v t∈EZ (.inr x))(b:σ t=.bx i c):jl H d i=true:=by cases x<;>simp[EZ,]at g;rename_i f k l;simp only[evX,qW,Option.map_eq_some_iff,Option.bind_eq_some_iff,ifB_some,]at h;obtain⟨r,⟨m,_,j,e⟩,_,rfl⟩:=h;cases e;exact BD j (List.mem_map.2 ⟨_,g,b⟩)
theorem Om{x:QOp⊕XOp}{a:Arg}(h:a∈EZ x):a∈me x:=by
 unfold EZ at h;split at h;·exact h
 grind
theorem keep_iff{s:St}{x:XOp}{σ l:Nat->AV}{H m:Heap}{v w:AV}(h:evX Γ cal l H x=some (w,m))(d:jG (.inr x) s.op=true)(o:∀t,(qm s.op=some t\/lenOf s.op=some t)->.v t∈me (.inr x)->σ t=l t):gx Γ cal s σ H=some (v,H)↔gx Γ cal s σ m=some (v,m):=by
 unfold jG at d;rw[Bool.or_eq_true]at d;rcases d with d|d;·cases c:qm s.op with|none=>grind|some t=>
   rw[c]at d;let⟨a,n,e⟩:=List.any_eq_true.1 d;have :=zn e;subst this;have q:=o t (.inl c) n;unfold qm at c;split at c;rotate_left;·grind
   rename_i sz ag y j g;simp[]at c;subst c;have f:evQ Γ cal σ m (.loadk sz ag y (.v j))=evQ Γ cal σ H (.loadk sz ag y (.v j)):=by
    simp[evQ,Arg.ev];unfold zb;split
    ·rename_i A p C r u D;split;·rename_i B;subst B;have z:=keep_far h n (by rw[<-q];omega);simp[kj,dj,z]
     ·rfl
    ·rfl
   simp[gx,g,f];cases wanted σ s.g with|none=>simp|some b=>cases b<;>simp
 ·cases c:lenOf s.op with|none=>grind|some t=>
   rw[c]at d;let⟨a,n,e⟩:=List.any_eq_true.1 d;have :=zn e;subst this;have q:=o t (.inr c) (Om n);unfold lenOf at c;split at c;rotate_left;·grind
   rename_i y j g;simp[]at c;subst c;have f:evQ Γ cal σ m (.lenk y (.v j))=evQ Γ cal σ H (.lenk y (.v j)):=by simp[evQ,Arg.ev];cases u:σ j with|bx A p=>exact Qk (keep_row h n (by rw[<-q];omega))|_=>rfl
   simp[gx,g,f];cases wanted σ s.g with|none=>simp|some b=>cases b<;>simp
theorem Course.keep{c:List St}{E:Nat->Env}{d:Nat->Heap}{g:Nat->AV}(j:Course Γ cal c E d g){m:Nat}{a s:St}(k:c[m]?=some a)(h:isX a.op=true)(i:jG a.op s.op=true){σ:Nat->AV}{v:AV}(e:∀t,(qm s.op=some t\/lenOf s.op=some t)->.v t∈me a.op->σ t=look (E m) t):gx Γ cal s σ (d m)=some (v,d m)↔gx Γ cal s σ (d (m+1))=some (v,d (m+1)):=by
 have f:=j.one m a k;simp[gx]at f;split at f;·grind
 ·grind
 ·cases b:a.op with|inl q=>rw[b]at h;cases h|inr x=>rw[b]at f i e;exact keep_iff f i e
theorem Course.stay{d:List St}{E:Nat->Env}{b:Nat->Heap}{g:Nat->AV}(f:Course Γ cal d E b g){m:Nat}{e s:St}(j:d[m]?=some e)(k:isX s.op=false)(l:isX e.op=true->goesBy e.op s.op=true){σ:Nat->AV}{v:AV}(i:∀t,(qm s.op=some t\/lenOf s.op=some t)->.v t∈me e.op->σ t=look (E m) t)(h:gx Γ cal s σ (b m)=some (v,b m)):gx Γ cal s σ (b (m+1))=some (v,b (m+1)):=by cases c:isX e.op with|false=>rw[f.quiet j c];grind|true=>
  have a:=l c;unfold goesBy at a;rw[Bool.or_eq_true]at a;rcases a with a|a;·simp[]at a;let⟨X,c⟩:=f.more j (λ_=>a.1);rw[c];exact evOne_up k h
  ·exact(f.keep j c a i).1 h
theorem Course.still{a:List St}{E:Nat->Env}{f:Nat->Heap}{b:Nat->AV}(c:Course Γ cal a E f b){t:Nat}(e:∀(k:Nat)s,a[k]?=some s->s.dst≠some t):∀i,i<=a.length->look (E i) t=look (E 0) t
 |0,_=>rfl|i+1,hi=>by have d:a[i]?=some a[i]:=List.getElem?_eq_getElem (by omega);rw[c.env i _ d,sa,if_neg (e i _ d)];exact c.still e i (by omega)
theorem Course.grows{a:List St}{E:Nat->Env}{b:Nat->Heap}{c:Nat->AV}(d:Course Γ cal a E b c){k:Nat}:∀i,k<=i->i<=a.length->(∀(m:Nat)s,k<=m->m<i->a[m]?=some s->isX s.op=true->ur s.op=true)->∃X,b i=b k++X
 |0,h,_,_=>⟨[],by grind⟩|i+1,h,hi,e=>by
  by_cases o:k=i+1;·simp[*]
  ·have f:a[i]?=some a[i]:=List.getElem?_eq_getElem (by omega);let⟨X,j⟩:=d.grows (k:=k) i (by omega) (by omega) λm s g l=>e m s g (by omega);let⟨Y,n⟩:=d.more f (e i _ (by omega) (by omega) f);grind
end
section


variable{Γ:Ctx}{N:Names}{P:Program}{cal:Nat->List AV->Heap->Option (List AV×Heap)}{ops:Array Oper}{sts:List St}
theorem getD_both{listed:Array Bool}{i:Nat}(h:listed.getD i true=false):listed.getD i false=false:=by grind
theorem getD_in{listed:Array Bool}{i:Nat}(hi:i<listed.size)(h:listed.getD i false=false):listed.getD i true=false:=by grind
theorem uR{listed:Array Bool}(b:∀(j:Nat)o,ops[j]?=some o->listed.getD j false=true->∀e∈o.after,Go.Region.binds .any e=true->listed.getD e.on false=true){j i:Nat}(h:Waits ops j i):listed.getD j false=true->listed.getD i false=true:=by induction h with|one j o e d f c=>grind|more j o e i d f c _ k=>grind
theorem Ib{listed:Array Bool}(d:∀(j:Nat)o,ops[j]?=some o->listed.getD j false=true->∀e∈o.after,Go.Region.binds .any e=true->listed.getD e.on false=true){j i:Nat}(m:j∈Go.Region.ready .any ops listed)(h:Waits ops j i):listed.getD i false=true:=by let⟨_,o,l,c⟩:=Go.mem_ready.1 m;cases h with|one _ k e a f g=>grind|more _ k e i a f g n=>rw[l]at a;cases a;exact uR d n (c e f g)
def Vin(n:Nat):AV->Prop|.own id _|.bx id _|.el id _ _ _|.mp id=>id<n|_=>True
theorem RelV.vin{ν:Nat->Nat}{w:World}{S:Nat->Prop}{μ:Nat->Value}{H:Heap}{v:AV}{u:Value}(h:RelV ν w S μ H v u):Vin H.length v:=by cases h<;>first|assumption|trivial
theorem pA{H X:Heap}{a n:Nat}(h:a<H.length):rowOf (H++X) a n=rowOf H a n:=by unfold rowOf;grind
theorem OF{H X:Heap}{a:Nat}(h:a<H.length):dj (H++X) a=dj H a:=by unfold dj;grind
theorem NG{H X:Heap}{sz:Nat}{ag:Bool}:∀{v:AV},Vin H.length v->kj (H++X) sz ag v=kj H sz ag v|.p (.ptr _),_=>rfl|.bx _ _,h=>by simp[kj,OF (show _<H.length from h)]|.el _ _ _ _,h=>by simp[kj,pA (show _<H.length from h)]|.own _ _,_=>rfl|.mp _,_=>rfl|.agg _,_=>rfl|.tup _,_=>rfl|.clo _ _,_=>rfl|.nov,_=>rfl|.any,_=>rfl|.p (.int _ _),_=>rfl|.p (.bool _),_=>rfl|.p (.str _),_=>rfl|.p .nilp,_=>rfl|.p .nilfn,_=>rfl|.p .nilmap,_=>rfl|.p (.clo _ _),_=>rfl|.p (.sl _ _ _),_=>rfl|.p (.agg _),_=>rfl
theorem Px{H X:Heap}{b:Bool}{v:AV}(c:Vin H.length v):jm (H++X) b v=jm H b v:=by
 unfold jm;split;·rfl
 ·rfl
 ·rename_i a n;exact congrArg (Option.map λ_=>n) (pA (show a<H.length from c))
 ·rfl
theorem Jv{H X:Heap}{sz:Nat}{v i:AV}(b:Vin H.length v):iaddrA (H++X) sz v i=iaddrA H sz v i:=by
 unfold iaddrA;split;·rfl
 ·rename_i a n k i;rw[pA (X:=X) (n:=n) (show a<H.length from b)]
 ·rfl
theorem EX{H X:Heap}{a n i:Nat}(h:a<H.length):elOk (H++X) a n i=elOk H a n i:=by unfold elOk;rw[pA h]
theorem FT{H X:Heap}{v:AV}(b:Vin H.length v):lc (H++X) v=lc H v:=by
 unfold lc;split;·rfl
 ·rfl
 ·rename_i a n i c;rw[EX (X:=X) (show a<H.length from b)]
 all_goals rfl
theorem IQ{H X:Heap}{o:Nat}{v:AV}(b:Vin H.length v):qg (H++X) o v=qg H o v:=by
 unfold qg;split;·rfl
 ·rfl
 ·rename_i a n i c;rw[EX (X:=X) (show a<H.length from b)]
 ·rfl
theorem MY{s:St}{σ:Nat->AV}{H X:Heap}{v:AV}(d:nr s.op=true)(c:∀t∈s.reads,Vin H.length (σ t))(h:gx Γ cal s σ (H++X)=some (v,H++X)):gx Γ cal s σ H=some (v,H):=by
 have g:∀q:QOp,s.op=.inl q->evQ Γ cal σ (H++X) q=evQ Γ cal σ H q:=λq a=>by
  rw[a]at d;unfold nr at d;split at d;·rename_i sz ag t e;cases e;exact NG (c t (by simp[St.reads,a,sD,QOp.args,Arg.tmps]))
  ·rename_i b t e;cases e;exact congrArg (Option.map λ(n:Nat)=>AV.p (.int .i64 (n:Int))) (Px (c t (by simp[St.reads,a,sD,QOp.args,Arg.tmps])))
  ·rename_i sz t i e;cases e;exact Jv (c t (by simp[St.reads,a,sD,QOp.args,Arg.tmps]))
  ·rename_i t e;cases e;exact FT (c t (by simp[St.reads,a,sD,QOp.args,Arg.tmps]))
  ·rename_i j t e;cases e;exact IQ (c t (by simp[St.reads,a,sD,QOp.args,Arg.tmps]))
  grind
 unfold gx at h⊢;split at h;·grind
 ·grind
 ·cases f:s.op with|inr x=>rw[f]at d;cases d|inl q=>simp_all
theorem Iq{j i m:Nat}(h:Waits ops j i)(f:Waits ops i m):Waits ops j m:=by induction h with|one j o e d b c=>exact .more j o e m d b c f|more j o e i d b c _ g=>exact .more j o e m d b c (g f)
theorem Nj{j m:Nat}(h:Waits ops j m):∃p o e,ops[p]?=some o/\e∈o.after/\Go.Region.binds .any e=true/\e.on=m/\(p=j\/Waits ops j p):=by induction h with|one j o e f c d=>grind|more j o e i f c d _ k=>
  let⟨p,n,g,s,l,q,r,b⟩:=k;refine⟨p,n,g,s,l,q,r,.inr ?_⟩;rcases b with rfl|b;·exact .one j o e f c d
  ·exact .more j o e p f c d b
structure Pend(N:Names)(ops:Array Oper)(sts:List St)(w0:World)(listed:Array Bool)(a:Act)(w:World)(S:Nat->Prop)(μ:Nat->Value)(H:Heap)(m g:Nat):Prop where
 late:LateAt ops sts m
 new:w0.heap.size<=g
 un:Un w S μ H g
 box:∃us T d z,sts[m]?=some ⟨some d,none,.inr (.alloc z)⟩/\w.heap[g]?=some (.cells us T)/\CellsRel N.fn w S μ H (z.map .p) us/\a.tmps.getD d undef=.pointer (some ⟨g,0,none⟩)/\∀(n:Nat)s',n≠m->sts[n]?=some s'->s'.dst=some d->listed.getD n false=false
def IsP(sts:List St)(listed:Array Bool)(k m:Nat):Prop:=k<=m/\listed.getD m false=true/\∃s,sts[m]?=some s/\isX s.op=true
structure Front(N:Names)(Γ:Ctx)(ops:Array Oper)(sts:List St)(E:Nat->Env)(hp:Nat->Heap)(w0:World)(S0:Nat->Prop)(μ0:Nat->Value)(listed:Array Bool)(a:Act)(w:World)(S:Nat->Prop)(μ:Nat->Value)(k:Nat)(G:Nat->Nat):Prop where
 step:Step N.fn w0 S0 μ0 (hp 0) w S μ (hp k)gl:GlRel Γ N w S
 le:k<=sts.length
 below:∀(m:Nat)s,m<k->sts[m]?=some s->isX s.op=true->listed.getD m false=true
 pend:∀m,IsP sts listed k m->Pend N ops sts w0 listed a w S μ (hp k) m (G m)dist:∀m n,IsP sts listed k m->IsP sts listed k n->G m=G n->m=n
 slots:∀t,(∀(m:Nat)s,IsP sts listed k m->sts[m]?=some s->s.dst≠some t)->RelV N.fn w S μ (hp k) (look (E (qK sts (λi=>listed.getD i false) t sts.length)) t) (a.tmps.getD t undef)
def RY(sts:List St)(listed:Array Bool)(k:Nat):Prop:=∀m,IsP sts listed k m->∃n s',k<=n/\n<m/\sts[n]?=some s'/\isX s'.op=true/\listed.getD n false=false
theorem Front.catch{E:Nat->Env}{L:Nat->Heap}{C:Nat->AV}(F:Course Γ cal sts E L C){w0 w:World}{S0 S:Nat->Prop}{μ0:Nat->Value}{listed:Array Bool}{a:Act}:∀(n:Nat)(μ:Nat->Value)(k:Nat)(G:Nat->Nat),sts.length-k=n->Front N Γ ops sts E L w0 S0 μ0 listed a w S μ k G->∃u V G',Front N Γ ops sts E L w0 S0 μ0 listed a w S u V G'/\RY sts listed V:=by intro n;induction n with
 |zero=>intro μ k G x f;refine⟨μ,k,G,f,λm b=>?_⟩;let⟨Y,_,s,Z,_⟩:=b;grind|succ n Q=>
  intro μ k G x f;have A:k<sts.length:=by omega
  have p:=List.getElem?_eq_getElem A;generalize sts[k]=s at p;have g:∀m,IsP sts listed (k+1) m->IsP sts listed k m:=λm b=>⟨by have :=b.1;omega,b.2⟩;cases B:isX s.op with
  |false=>
   have e:=F.quiet p B;have y:∀m,IsP sts listed k m->IsP sts listed (k+1) m:=λm b=>by refine⟨?_,b.2⟩;let⟨Y,_,o,Z,h3⟩:=b;grind
   refine Q μ (k+1) G (by omega) ⟨by rw[e];exact f.step,f.gl,A,λm o b j r=>?_,λm b=>by rw[e];exact f.pend m (g m b),λm n b x=>f.dist m n (g m b) (g n x),λt K=>by rw[e];exact f.slots t λm o b=>K m o (y m b)⟩;by_cases h:m=k;·grind
   ·exact f.below m o (by omega) j r|true=>cases D:listed.getD k false with
   |false=>
    refine⟨μ,k,G,f,λm b=>⟨k,s,Nat.le_refl _,?_,p,B,D⟩⟩;have :k≠m:=λh=>by subst h;have :=b.2.1;grind
    have :=b.1;omega|true=>
    have W:IsP sts listed k k:=⟨Nat.le_refl _,D,s,p,B⟩;have q:=f.pend k W;let⟨us,T,d,z,J,q2,q3,q4,q5⟩:=q.box;rw[p]at J;simp[]at J;subst J;have v:=F.one k _ p;simp[gx,wanted,evX,]at v;let⟨v1,v2⟩:=v;let⟨u,R,O,P,U⟩:=f.step.bind q.new q.un q2 q3;rw[v2]at R O P U;rw[v1]at U;refine Q u (k+1) G (by omega) ⟨R,f.gl,A,λm o b j r=>?_,λm b=>?_,λm n b x=>f.dist m n (g m b) (g n x),λt K=>?_⟩
    ·by_cases h:m=k;·grind
     ·exact f.below m o (by omega) j r
    ·have l:=f.pend m (g m b);let⟨us,T,d',X,r1,r2,r3,r4⟩:=l.box;refine⟨l.late,l.new,P _ l.un λh=>?_,us,T,d',X,r1,r2,r3.keep (λ_ h=>h) (λ_ _=>rfl) O,r4⟩;have :=f.dist m k (g m b) W h;have :=b.1;omega
    ·by_cases M:t=d
     ·subst M;rw[CB (i:=k) D (by simp[nQ,p]) sts.length A λm b hml I=>?_];·rw[F.env k _ p,sa,if_pos rfl,q4];grind
      ·unfold nQ at I;grind
     ·refine(f.slots t λm o b j=>?_).keep (λ_ h=>h) (λ_ _=>rfl) O;by_cases h:m=k;·grind
      ·exact K m o ⟨by have :=b.1;omega,b.2⟩ j
structure Mid(N:Names)(Γ:Ctx)(ops:Array Oper)(sts:List St)(E:Nat->Env)(hp:Nat->Heap)(w0:World)(S0:Nat->Prop)(μ0:Nat->Value)(a0:Act)(listed:Array Bool)(a:Act)(w:World):Prop where
 size:listed.size=sts.length
 closed:∀(j:Nat)o,ops[j]?=some o->listed.getD j false=true->∀e∈o.after,Go.Region.binds .any e=true->listed.getD e.on false=true
 tmps:a.tmps.size=a0.tmps.size
 defers:a.defers=a0.defers
 others:∀t,(∀s∈sts,s.dst≠some t)->a.tmps.getD t undef=a0.tmps.getD t undef
 state:∃S μ k G,Front N Γ ops sts E hp w0 S0 μ0 listed a w S μ k G/\RY sts listed k
theorem getD_set{listed:Array Bool}{i m:Nat}(hi:i<listed.size):(listed.setIfInBounds i true).getD m false=(if i=m then true else listed.getD m false):=by by_cases h:i=m;all_goals simp_all
theorem BO (hcal : iL Γ N P cal) {nt : Nat} (hD : Draw ops sts) (hst : ∀ (j : Nat) s,sts[j]? = some s → ∃ o,ops[j]? = some o ∧ vH P N ops nt o s = true) {E : Nat → Env} {hp : Nat → Heap} {val : Nat → AV}
  (hC : Course Γ cal sts E hp val) {w0 : World} {S0 : Nat → Prop} {μ0 : Nat → Value} {a0 : Act} (hn : nt ≤ a0.tmps.size) {Q : Exit → Act → World → Prop}
  (hQ : ∀ a' w' S' μ',Step N.fn w0 S0 μ0 (hp 0) w' S' μ' (hp sts.length) → Env.Rel Γ N w' S' μ' (hp sts.length) (look (E sts.length)) a' → a'.tmps.size = a0.tmps.size → a'.defers = a0.defers → (∀ t,(∀ s ∈ sts,s.dst ≠ some t) → a'.tmps.getD t undef = a0.tmps.getD t undef) → Q .normal a' w') :
  ∀ (fuel : Nat) (todo : List Nat) (listed : Array Bool) (a : Act) (w : World),todo.Nodup → (∀ i,i ∈ todo ↔ i < sts.length ∧ listed.getD i false = false) → todo.length ≤ fuel →
   Mid N Γ ops sts E hp w0 S0 μ0 a0 listed a w → Go.wpAny P .any ops Q fuel listed a w := by
 have done : ∀ (listed : Array Bool) (a : Act) (w : World),Mid N Γ ops sts E hp w0 S0 μ0 a0 listed a w → Go.Region.ready .any ops listed = [] → Q .normal a w := by
  intro listed a w hM hrd
  have all : ∀ i,i < sts.length → listed.getD i false = true := by
   intro i
   induction i using Nat.strongRecOn with
   | _ i ih =>
    intro hi
    cases hl : listed.getD i false with
    | true => rfl
    | false =>
     have ho : ops[i]? = some (ops[i]'(by rw [← hD.len]; exact hi)) := Array.getElem?_eq_getElem _
     have : i ∈ Go.Region.ready .any ops listed := Go.mem_ready.2 ⟨getD_in (by rw [hM.size]; exact hi) hl,_,ho,fun e he hb => ih e.on (hD.back i _ ho e he hb) (by have := hD.back i _ ho e he hb; omega)⟩
     rw [hrd] at this; cases this
  obtain ⟨S,μ,k,G,hF,hCt⟩ := hM.state
  have none : ∀ m,¬ IsP sts listed k m := fun m hm => by
   obtain ⟨n,s',_,h2,h3,_,h5⟩ := hCt m hm
   rw [all n (List.getElem?_eq_some_iff.1 h3).1] at h5; cases h5
  have hk : hp k = hp sts.length := by
   refine (hC.between sts.length hF.le (Nat.le_refl _) fun m s' h1 h2 hs' => ?_).symm
   cases hx : isX s'.op with
   | false => rfl
   | true => exact absurd ⟨h1,all m h2,s',hs',hx⟩ (none m)
  refine hQ a w S μ (by rw [← hk]; exact hF.step) ⟨fun t => ?_,hF.gl⟩ hM.tmps hM.defers hM.others
  have := hC.agree (L := fun i => listed.getD i false) (t := t) (i := sts.length) (fun k hd => ⟨fun _ => by
   unfold nQ at hd
   cases hs : sts[k]? with
   | none => rw [hs] at hd; cases hd
   | some s => exact (List.getElem?_eq_some_iff.1 hs).1,fun h => all k h⟩) sts.length (Nat.le_refl _)
  rw [Nat.min_self] at this
  rw [← this,← hk]
  exact hF.slots t fun m _ hm => absurd hm (none m)
 intro fuel
 induction fuel with
 | zero =>
  intro todo listed a w hnd htodo hlen hM
  have hemp : todo = [] := by cases todo with | nil => rfl | cons x l => simp at hlen
  have hrd : Go.Region.ready .any ops listed = [] := by
   rw [List.eq_nil_iff_forall_not_mem]
   intro i hi
   obtain ⟨hun,o,ho,_⟩ := Go.mem_ready.1 hi
   have : i ∈ todo := (htodo i).2 ⟨by rw [hD.len]; exact (Array.getElem?_eq_some_iff.1 ho).1,getD_both hun⟩
   rw [hemp] at this; cases this
  exact ⟨hrd,done listed a w hM hrd⟩
 | succ fuel ih =>
  intro todo listed a w hnd htodo hlen hM
  refine ⟨done listed a w hM,fun i hi => ?_⟩
  obtain ⟨hun,o,ho,hall⟩ := Go.mem_ready.1 hi
  have hun := getD_both hun
  have hin : i < sts.length := by rw [hD.len]; exact (Array.getElem?_eq_some_iff.1 ho).1
  have hs : sts[i]? = some sts[i] := List.getElem?_eq_getElem hin
  generalize sts[i] = s at hs
  obtain ⟨o',ho',hso⟩ := hst i s hs
  rw [ho] at ho'; cases ho'
  obtain ⟨S,μ,k,G,hF,hCt⟩ := hM.state
  have wl : ∀ {j},Waits ops i j → listed.getD j false = true := fun h => Ib hM.closed hi h
  have lw : ∀ {j},Waits ops j i → listed.getD j false = false := fun {j} h => by
   cases hj : listed.getD j false with
   | false => rfl
   | true => rw [uR hM.closed h hj] at hun; cases hun
  have hnw : ∀ m,IsP sts listed k m → ¬ Waits ops i m := fun m hm hw => by
   obtain ⟨n0,s0,_,h2,h3,h4,h5⟩ := hCt m hm
   obtain ⟨p,op,e,p1,p2,p3,p4,p5⟩ := Nj hw
   have hmp : m < p := by have := hD.back p op p1 e p2 p3; omega
   have hwp := (hF.pend m hm).late.all p op e p1 p2 p3 p4 n0 s0 (by omega) (by omega) h3 h4
   have hwi : Waits ops i n0 := by
    rcases p5 with rfl | p5
    ·exact hwp
    ·exact Iq p5 hwp
   rw [wl hwi] at h5; cases h5
  have hfree : ∀ {m j},LateAt ops sts m → ¬ Waits ops m j := fun {m j} hl hw => by
   cases hw with
   | one _ o' e ho' he hb => exact hl.free o' ho' e he hb
   | more _ o' e i ho' he hb hw => exact hl.free o' ho' e he hb
  have hnn : ∀ m s',IsP sts listed k m → sts[m]? = some s' → ∀ t ∈ s.names,s'.dst ≠ some t := fun m s' hm hs' t ht hd => by
   obtain ⟨n1,n2⟩ := hD.names i s hs t ht m s' hs' hd
   rcases Nat.lt_trichotomy m i with h | h | h
   ·exact hnw m hm (n1 h)
   ·subst h; have := hm.2.1; rw [hun] at this; cases this
   ·exact hfree (hF.pend m hm).late (n2 h)
  have hset := fun m => getD_set (m := m) (i := i) (listed := listed) (by rw [hM.size]; exact hin)
  have hdt : ∀ d,s.dst = some d → d < a.tmps.size := fun d hd => by
   simp only [vH,hd,Bool.and_eq_true,decide_eq_true_eq] at hso
   rw [hM.tmps]; omega
  -- what every step leaves
  have next : ∀ (u : Value) (w' : World),(∃ S' μ' k' G',Front N Γ ops sts E hp w0 S0 μ0 (listed.setIfInBounds i true) (a.put s.dst u) w' S' μ' k' G' ∧ RY sts (listed.setIfInBounds i true) k') → Go.wpAny P .any ops Q fuel (listed.setIfInBounds i true) (a.put s.dst u) w' := fun u w' hst => by
   refine ih (todo.erase i) (listed.setIfInBounds i true) _ w' (hnd.erase i) (fun j => ?_) ?_ ⟨by simp [hM.size],fun j oj hoj hj e he hb => ?_,by rw [CC]; exact hM.tmps,by rw [put_defers]; exact hM.defers,fun t ht => by rw [ju (ht s (List.mem_of_getElem? hs))]; exact hM.others t ht,hst⟩
   ·rw [hnd.mem_erase_iff,htodo j,hset j]
    by_cases h : i = j
    ·subst h; simp
    ·simp [h,Ne.symm h]
   ·rw [List.length_erase_of_mem ((htodo i).2 ⟨hin,hun⟩)]; omega
   ·rw [hset j] at hj
    rw [hset e.on]
    by_cases h1 : i = e.on
    ·rw [if_pos h1]
    ·rw [if_neg h1]
     by_cases h2 : i = j
     ·subst h2
      rw [ho] at hoj; cases hoj
      exact hall e he hb
     ·rw [if_neg h2] at hj
      exact hM.closed j oj hoj hj e he hb
  have mine : ∀ m,IsP sts listed k m → ∀ d,(∃ s',sts[m]? = some s' ∧ s'.dst = some d) → s.dst ≠ some d := fun m hm d ⟨s',hs',hd⟩ h => hnn m s' hm hs' d (by simp [St.names,h]) hd
  by_cases hlate : LateAt ops sts i ∧ ∃ n0 s0,k ≤ n0 ∧ n0 < i ∧ sts[n0]? = some s0 ∧ isX s0.op = true ∧ listed.getD n0 false = false
  ·obtain ⟨hli,n0,s0,m1,m2,m3,m4,m5⟩ := hlate
   obtain ⟨d,z,hop⟩ := hli.op
   rw [hs] at hop
   simp only [Option.some.injEq] at hop
   subst hop
   have hr : Rel N.fn w S μ (hp k) := hF.step.rel
   refine Sv ho hso (σ := fun _ => .any) (S := S) (μ := μ) (H := hp k) ⟨fun t => .any _,hF.gl⟩ fun us T hc => next _ _ ⟨S,μ,k,fun m => if m = i then w.heap.size else G m,?_,?_⟩
   ·have hgr := Grows.alloc w (.cells us T)
    have hst : Step N.fn w S μ (hp k) (w.alloc (.cells us T)) S μ (hp k) := .grow hr hgr (fun _ h => h) (fun g h => Nat.lt_of_lt_of_le (hr.lt g h) hgr.size) (fun _ h => .inl h)
    have keep := hr.keepS hgr
    have old : ∀ m,IsP sts (listed.setIfInBounds i true) k m → m ≠ i → IsP sts listed k m := fun m hm hne => ⟨hm.1,by have := hm.2.1; rwa [hset m,if_neg (Ne.symm hne)] at this,hm.2.2⟩
    refine ⟨hF.step.trans hst,hF.gl.step hr hst,hF.le,fun m s' hm hs' hx => ?_,fun m hm => ?_,fun m n hm hn hG => ?_,fun t ht => ?_⟩
    ·rw [hset m]
     split
     ·rfl
     ·exact hF.below m s' hm hs' hx
    ·by_cases h : m = i
     ·subst h
      simp only [if_true]
      refine ⟨hli,hF.step.ext.size,.fresh hr _,us,T,d,z,hs,Go.heap_alloc_new w _,hc.keep (fun _ h => h) keep .refl,rz (hdt d rfl),fun n s' hne hs' hd => ?_⟩
      rw [hset n,if_neg (Ne.symm hne)]
      obtain ⟨n1,n2⟩ := hD.names n s' hs' d (by simp [St.names,hd]) m _ hs rfl
      rcases Nat.lt_or_gt_of_ne hne with h | h
      ·exact absurd (n2 h) (hfree hli)
      ·exact lw (n1 h)
     ·have hm0 := old m hm h
      have hp0 := hF.pend m hm0
      obtain ⟨us',T',d',z',q1,q2,q3,q4,q5⟩ := hp0.box
      simp only [if_neg h]
      refine ⟨hp0.late,hp0.new,hp0.un.size hgr.size,us',T',d',z',q1,by rw [hgr.keep _ hp0.un.1]; exact q2,q3.keep (fun _ h => h) keep .refl,?_,fun n s' hne hs' hd => ?_⟩
      ·rw [ju (mine m hm0 d' ⟨_,q1,rfl⟩)]; exact q4
      ·rw [hset n,if_neg fun e => ?_]
       ·exact q5 n s' hne hs' hd
       ·subst e
        rw [hs] at hs'
        simp only [Option.some.injEq] at hs'
        subst hs'
        exact mine m hm0 d' ⟨_,q1,rfl⟩ hd
    ·by_cases h : m = i <;> by_cases h' : n = i
     ·rw [h,h']
     ·simp only [if_pos h,if_neg h'] at hG
      have := (hF.pend n (old n hn h')).un.1
      omega
     ·simp only [if_neg h,if_pos h'] at hG
      have := (hF.pend m (old m hm h)).un.1
      omega
     ·simp only [if_neg h,if_neg h'] at hG
      exact hF.dist m n (old m hm h) (old n hn h') hG
    ·have htd : some d ≠ some t := ht i _ ⟨by omega,by rw [hset i,if_pos rfl],_,hs,rfl⟩ hs
     rw [ju htd,qE (L' := fun m => listed.getD m false) sts.length fun m _ hmd => ?_]
     ·exact (hF.slots t fun m s' hm => ht m s' ⟨hm.1,by
       rw [hset m]
       split
       ·rfl
       ·exact hm.2.1,hm.2.2⟩).step hr hst
     ·rw [hset m,if_neg fun e => ?_]
      subst e; simp [nQ,hs] at hmd; exact htd (by rw [hmd])
   ·intro m hm
    by_cases h : m = i
    ·subst h
     exact ⟨n0,s0,m1,m2,m3,m4,by rw [hset n0,if_neg (by omega)]; exact m5⟩
    ·have hm0 : IsP sts listed k m := ⟨hm.1,by have := hm.2.1; rwa [hset m,if_neg (Ne.symm h)] at this,hm.2.2⟩
     obtain ⟨n,s',c1,c2,c3,c4,c5⟩ := hCt m hm0
     by_cases h' : n = i
     ·subst h'
      exact ⟨n0,s0,m1,by omega,m3,m4,by rw [hset n0,if_neg (by omega)]; exact m5⟩
     ·exact ⟨n,s',c1,c2,c3,c4,by rw [hset n,if_neg (Ne.symm h')]; exact c5⟩
  -- memory is aX in the order of the text,for those that look at it
  have xnf : ∀ {s : St},isX s.op = true → qA s.op = false := fun {s} h => by
   cases hs : s.op with
   | inl q => rw [hs] at h; cases h
   | inr x => rw [hs] at h; cases x <;> first | rfl | cases h
  have tailX : ∀ (j : Nat) (s1 : St),sts[j]? = some s1 → isX s1.op = true → ∀ (k : Nat) (s' : St),k < j → sts[k]? = some s' → qA s'.op = false → (goesBy s1.op s'.op = true ∨ jG s'.op s1.op = true ∨ (isX s1.op = false ∧ isX s'.op = false)) ∨ (LateAt ops sts j ∧ isX s'.op = true) ∨ Waits ops j k := fun j s1 h1 h2 => by
   rcases hD.tail j s1 h1 (xnf h2) ⟨j,s1,Nat.le_refl _,h1,h2⟩ with h | h
   ·rw [LG h.1] at h2; cases h2
   ·exact h
  have hmem : isX s.op = true → k ≤ i ∧ (∀ (m : Nat) s',k ≤ m → m < i → sts[m]? = some s' → isX s'.op = false) := fun hsx => by
   have before : ∀ (m : Nat) s',m < i → sts[m]? = some s' → isX s'.op = true → listed.getD m false = true := fun m s' hm hs' hx' => by
    rcases tailX i s hs hsx m s' hm hs' (xnf hx') with (h | h | h) | h | h
    ·rw [Lm h] at hx'; cases hx'
    ·rw [tT h] at hsx; cases hsx
    ·rw [h.1] at hsx; cases hsx
    ·cases hl : listed.getD m false with
     | true => rfl
     | false =>
      refine absurd ⟨h.1,m,s',?_,hm,hs',hx',hl⟩ hlate
      rcases Nat.lt_or_ge m k with hlt | hge
      ·rw [hF.below m s' hlt hs' hx'] at hl; cases hl
      ·exact hge
    ·exact wl h
   refine ⟨?_,fun m s' h7 h8 hs' => ?_⟩
   ·rcases Nat.lt_or_ge i k with hlt | hge
    ·rw [hF.below i s hlt hs hsx] at hun; cases hun
    ·exact hge
   ·cases hx : isX s'.op with
    | false => rfl
    | true =>
     obtain ⟨n,s2,c1,c2,c3,c4,c5⟩ := hCt m ⟨h7,before m s' h8 hs' hx,s',hs',hx⟩
     rw [before n s2 (by omega) c3 c4] at c5; cases c5
  have hhp : qA s.op = false → hp i = hp k ∨ (isX s.op = false ∧ ∀ σ v,(∀ t,(qm s.op = some t ∨ lenOf s.op = some t) → σ t = look (E i) t) → (∀ t ∈ s.reads,Vin (hp k).length (σ t)) → gx Γ cal s σ (hp i) = some (v,hp i) → gx Γ cal s σ (hp k) = some (v,hp k)) := fun hf => by
   cases hsx : isX s.op with
   | true =>
    have h := hmem hsx
    exact .inl (hC.between i h.1 (by omega) fun m s' h7 h8 hs' => h.2 m s' h7 h8 hs')
   | false =>
    refine .inr ⟨rfl,fun σ v hσ hvin hev => ?_⟩
    have slot : ∀ (m : Nat) sm,m ≤ sts.length → sts[m]? = some sm → ∀ t,(qm s.op = some t ∨ lenOf s.op = some t) → .v t ∈ me sm.op → σ t = look (E m) t := fun m sm hml hs2 t ht hk => by
     have hw := fun (k : Nat) s' hs' => hD.keep m _ hs2 t hk k s' hs'
     rw [hσ t ht,hC.still hw i (by omega),hC.still hw m hml]
    by_cases hik : i ≤ k
    ·
     have alloc : ∀ (m : Nat) (s2 : St),i ≤ m → m < k → sts[m]? = some s2 → isX s2.op = true → goesBy s2.op s.op = true := fun m s2 h7 h8 hs2 hx2 => by
      have hne : i ≠ m := fun h => by subst h; rw [hs] at hs2; cases hs2; rw [hsx] at hx2; cases hx2
      rcases tailX m s2 hs2 hx2 i s (by omega) hs hf with (h | h | h) | h | h
      ·exact h
      ·rw [tT h] at hx2; cases hx2
      ·rw [h.1] at hx2; cases hx2
      ·rw [hsx] at h; cases h.2
      ·have hml := hF.below m s2 h8 hs2 hx2
       rw [lw h] at hml; cases hml
     have hkl := hF.le
     have go : ∀ n,i + n ≤ k → gx Γ cal s σ (hp (i + n)) = some (v,hp (i + n)) := by
      intro n
      induction n with
      | zero => exact fun _ => hev
      | succ n ihn =>
       intro hn
       have hs2 : sts[i + n]? = some sts[i + n] := List.getElem?_eq_getElem (by omega)
       exact hC.stay hs2 hsx (alloc (i + n) _ (by omega) (by omega) hs2) (slot (i + n) _ (by omega) hs2) (ihn (by omega))
     have := go (k - i) (by omega)
     rwa [show i + (k - i) = k by omega] at this
    ·
     by_cases hxb : ∃ (m : Nat) (s1 : St),k ≤ m ∧ m < i ∧ sts[m]? = some s1 ∧ isX s1.op = true
     rotate_left
     ·have e : hp i = hp k := hC.between i (by omega) (by omega) fun m s' h7 h8 hs' => by
       cases hx : isX s'.op with
       | false => rfl
       | true => exact absurd ⟨m,s',h7,h8,hs',hx⟩ hxb
      rw [e] at hev; exact hev
     obtain ⟨m0,sm0,g1,g2,g3,g4⟩ := hxb
     rcases hD.tail i s hs hf ⟨m0,sm0,by omega,g3,g4⟩ with hdn | htail
     ·obtain ⟨X,hX⟩ := hC.grows (k := k) i (by omega) (by omega) fun m s' h7 h8 hs' hx' => by
       rcases hdn.2 m s' h8 hs' hx' with h | h
       ·exact h
       ·exact absurd h (hnw m ⟨h7,wl h,s',hs',hx'⟩)
      rw [hX] at hev
      exact MY hdn.1 hvin hev
     have go : ∀ n,n ≤ i - k → gx Γ cal s σ (hp (i - n)) = some (v,hp (i - n)) := by
      intro n
      induction n with
      | zero => exact fun _ => hev
      | succ n ihn =>
       intro hn
       have ihn := ihn (by omega)
       have hs2 : sts[i - (n + 1)]? = some sts[i - (n + 1)] := List.getElem?_eq_getElem (by omega)
       generalize sts[i - (n + 1)] = sm at hs2
       have em : i - n = i - (n + 1) + 1 := by omega
       rw [em] at ihn
       cases hx2 : isX sm.op with
       | false => rw [hC.quiet hs2 hx2] at ihn; exact ihn
       | true =>
        rcases htail (i - (n + 1)) sm (by omega) hs2 (xnf hx2) with (h | h | h) | h | h
        ·rw [Lm h] at hx2; cases hx2
        ·exact (hC.keep hs2 hx2 h (slot _ _ (by omega) hs2)).2 ihn
        ·rw [h.2] at hx2; cases hx2
        ·obtain ⟨d,z,hop⟩ := h.1.op
         rw [hs] at hop
         simp only [Option.some.injEq] at hop
         subst hop
         cases hsx
        ·exact absurd h (hnw _ ⟨by omega,wl h,sm,hs2,hx2⟩)
     have := go (i - k) (Nat.le_refl _)
     rwa [show i - (i - k) = k by omega] at this
  -- names are aX in the order of the text
  have hnm : ∀ t ∈ s.names,look (E (qK sts (fun i => listed.getD i false) t sts.length)) t = look (E i) t := fun t ht => by
   have := hC.agree (L := fun i => listed.getD i false) (t := t) (i := i) (fun m hd => by
    unfold nQ at hd
    obtain ⟨s',hs',hd⟩ := Option.bind_eq_some_iff.1 hd
    obtain ⟨n1,n2⟩ := hD.names i s hs t ht m s' hs' hd
    refine ⟨fun hm => ?_,fun hm => wl (n1 hm)⟩
    rcases Nat.lt_trichotomy m i with h | h | h
    ·exact h
    ·subst h; have hm : listed.getD m false = true := hm; rw [hm] at hun; cases hun
    ·have hm : listed.getD m false = true := hm; rw [lw (n2 h)] at hm; cases hm) sts.length (Nat.le_refl _)
   rw [this,Nat.min_eq_left (by omega)]
  have hev := hC.one i s hs
  obtain ⟨Hn,hσ,hX,hQn⟩ : ∃ Hn,gx Γ cal s (fun t => if t ∈ s.reads then look (E i) t else .any) (hp k) = some (val i,Hn) ∧ (isX s.op = true → Hn = hp (i + 1)) ∧ (isX s.op = false → Hn = hp k) := by
   have hσ : gx Γ cal s (fun t => if t ∈ s.reads then look (E i) t else .any) (hp i) = some (val i,hp (i + 1)) := by
    rw [← hev]
    exact Hy fun t ht => by simp [ht]
   cases hf : qA s.op with
   | true => exact ⟨hp k,Nl hf hσ,(fun hx => by rw [xnf hx] at hf; exact Bool.noConfusion hf),fun _ => rfl⟩
   | false =>
    rcases hhp hf with h | ⟨hx,hX⟩
    ·exact ⟨hp (i + 1),by rw [← h]; exact hσ,fun _ => rfl,fun hx => by rw [hC.quiet hs hx,h]⟩
    ·refine ⟨hp k,hX _ _ (fun t ht => ?_) (fun t ht => ?_) (by rw [hC.quiet hs hx] at hσ; exact hσ),(fun h => by rw [hx] at h; cases h),fun _ => rfl⟩
     rotate_left
     ·rw [if_pos ht,← hnm t (by simp [St.names,ht])]
      exact (hF.slots t fun m s' hm hs' => hnn m s' hm hs' t (by simp [St.names,ht])).vin
     have : t ∈ s.reads := by
      rcases ht with ht | ht
      ·unfold qm at ht
       split at ht
       ·rename_i hop
        simp only [Option.some.injEq] at ht
        subst ht
        simp [St.reads,hop,sD,QOp.args,Arg.tmps]
       ·cases ht
      ·unfold lenOf at ht
       split at ht
       ·rename_i hop
        simp only [Option.some.injEq] at ht
        subst ht
        simp [St.reads,hop,sD,QOp.args,Arg.tmps]
       ·cases ht
     rw [if_pos this]
  have he : Env.Rel Γ N w S μ (hp k) (fun t => if t ∈ s.reads then look (E i) t else .any) a := by
   refine ⟨fun t => ?_,hF.gl⟩
   by_cases ht : t ∈ s.reads
   ·have := hF.slots t fun m s' hm hs' => hnn m s' hm hs' t (by simp [St.names,ht])
    rw [hnm t (by simp [St.names,ht])] at this
    rw [if_pos ht]
    exact this
   ·rw [if_neg ht]; exact .any _
  have hr : Rel N.fn w S μ (hp k) := hF.step.rel
  refine GI hcal ho hso he hr hσ fun u w' S' μ' hstep hu => next u w' ?_
  have hdd : nQ sts i = s.dst := by simp [nQ,hs]
  -- how far memory is now
  obtain ⟨k',e1,e2,e3,e4,e5⟩ : ∃ k',Hn = hp k' ∧ k' ≤ sts.length ∧ (∀ (m : Nat) s',m < k' → sts[m]? = some s' → isX s'.op = true → (listed.setIfInBounds i true).getD m false = true) ∧ (∀ m,IsP sts (listed.setIfInBounds i true) k' m → IsP sts listed k m ∧ m ≠ i) ∧
    (∀ m,IsP sts listed k m → IsP sts (listed.setIfInBounds i true) k' m) := by
   have up : ∀ m,listed.getD m false = true → (listed.setIfInBounds i true).getD m false = true := fun m hm => by
    rw [hset m]
    split
    ·rfl
    ·exact hm
   cases hx : isX s.op with
   | true =>
    have h := hmem hx
    have lo : ∀ m,IsP sts listed k m → i + 1 ≤ m := fun m hm => by
     obtain ⟨m1,m2,s',m3,m4⟩ := hm
     rcases Nat.lt_trichotomy m i with hlt | rfl | hgt
     ·rw [h.2 m s' m1 hlt m3] at m4; cases m4
     ·rw [hun] at m2; cases m2
     ·exact hgt
    refine ⟨i + 1,hX hx,hin,fun m s' hm hs' hx' => ?_,fun m hm => ?_,fun m hm => ⟨lo m hm,up m hm.2.1,hm.2.2⟩⟩
    ·rcases Nat.lt_trichotomy m i with hlt | rfl | hgt
     ·rcases Nat.lt_or_ge m k with hlk | hge
      ·exact up m (hF.below m s' hlk hs' hx')
      ·rw [h.2 m s' hge hlt hs'] at hx'; cases hx'
     ·rw [hset m,if_pos rfl]
     ·omega
    ·have hne : i ≠ m := by have := hm.1; omega
     exact ⟨⟨by have := hm.1; have := h.1; omega,by have := hm.2.1; rwa [hset m,if_neg hne] at this,hm.2.2⟩,Ne.symm hne⟩
   | false =>
    refine ⟨k,hQn hx,hF.le,fun m s' hm hs' hx' => up m (hF.below m s' hm hs' hx'),fun m hm => ?_,fun m hm => ⟨hm.1,up m hm.2.1,hm.2.2⟩⟩
    have hne : i ≠ m := fun e => by
     subst e
     obtain ⟨_,_,s',m3,m4⟩ := hm
     rw [hs] at m3; cases m3; rw [hx] at m4; cases m4
    exact ⟨⟨hm.1,by have := hm.2.1; rwa [hset m,if_neg hne] at this,hm.2.2⟩,Ne.symm hne⟩
  subst e1
  have step' : Step N.fn w S μ (hp k) w' S' μ' (hp k') := hstep
  have keep : ∀ g,S g → w'.heap[g]? = w.heap[g]? := fun g hg => step'.ext.keep g (hr.lt g hg) fun ha => hr.apart g ha hg
  refine (fun (hF2 : Front N Γ ops sts E hp w0 S0 μ0 (listed.setIfInBounds i true) (a.put s.dst u) w' S' μ' k' G) => ?_)
   ⟨hF.step.trans step',hF.gl.step hr step',e2,e3,fun m hm => ?_,fun m n hm hn => hF.dist m n (e4 m hm).1 (e4 n hn).1,fun t ht => ?_⟩
  ·obtain ⟨μ2,k2,G2,f1,f2⟩ := hF2.catch hC _ μ' k' G rfl
   exact ⟨S',μ2,k2,G2,f1,f2⟩
  ·obtain ⟨hm0,hne⟩ := e4 m hm
   have hp0 := hF.pend m hm0
   obtain ⟨us',T',d',z',q1,q2,q3,q4,q5⟩ := hp0.box
   obtain ⟨u1,u2⟩ := hp0.un.run step'.run
   refine ⟨hp0.late,hp0.new,u1,us',T',d',z',q1,by rw [u2]; exact q2,q3.keep step'.ext.more keep step'.moves,?_,fun n s' hne hs' hd => ?_⟩
   ·rw [ju (mine m hm0 d' ⟨_,q1,rfl⟩)]; exact q4
   ·rw [hset n,if_neg fun e => ?_]
    ·exact q5 n s' hne hs' hd
    ·subst e
     rw [hs] at hs'
     simp only [Option.some.injEq] at hs'
     subst hs'
     exact mine m hm0 d' ⟨_,q1,rfl⟩ hd
  ·by_cases htd : s.dst = some t
   ·rw [CB (i := i) (by simp [hset]) (by rw [hdd]; exact htd) sts.length hin fun m hm hml hmd => ?_]
    ·rw [hC.env i s hs,sa,if_pos htd,htd,rz (hdt t htd)]
     exact hu
    ·rw [hset m,if_neg (by omega)]
     unfold nQ at hmd
     obtain ⟨s',hs',hmd⟩ := Option.bind_eq_some_iff.1 hmd
     exact lw ((hD.names i s hs t (by simp [St.names,htd]) m s' hs' hmd).2 hm)
   ·rw [ju htd,qE (L' := fun m => listed.getD m false) sts.length fun m _ hmd => ?_]
    ·exact (hF.slots t fun m s' hm => ht m s' (e5 m hm)).step hr step'
    ·rw [hset m,if_neg fun e => ?_]
     subst e; rw [hdd] at hmd; exact htd hmd
end
theorem Nv{a:List Nat}{b:Env}{t:Nat}:look (prune a b) t=if t∈a then look b t else .any:=by unfold prune;induction a with|nil=>rfl|cons x l c=>simp[look,];grind
theorem Ke{r:Nat->Option Nat}:∀{e a:Env}{t:Nat},vd r e=some a->look a t=.any\/∃v,look e t=v/\AV.ren r 3 v=some (look a t)
 |[],a,t,h=>by simp[vd,mapO,]at h;subst h;exact .inl rfl|(s,v)::e,a,t,h=>by
  simp[vd,mapO]at h;split at h
  ·rename_i x c;split at h
   ·rename_i xs b;simp[]at h;subst h;obtain⟨i,g,rfl⟩:=Option.map_eq_some_iff.1 c;simp only[look];by_cases d:s=t;·grind
    ·simp only[d,];exact Ke b
   grind
  grind
structure MovesK(k:Nat)(μ:Nat->Value)(H:Heap)(μ':Nat->Value)(H':Heap):Prop where
 len:k<=H'.length
 row:∀id f sz xs,id<k->H'[id]?=some (.row f sz xs)->∃f0 xs0,H[id]?=some (.row f0 sz xs0)/\xs0.length<=xs.length/\(xs0.length=xs.length->μ' id=μ id)box:∀id cs,id<k->H'[id]?=some (.box cs)->∃cs0,H[id]?=some (.box cs0)/\μ' id=μ id
theorem Moves.toK{k:Nat}{μ a:Nat->Value}{H d:Heap}(h:Moves μ H a d)(e:k<=H.length):MovesK k μ H a d:=⟨Nat.le_trans e h.len,λb f sz xs hi c=>h.row b f sz xs (by omega) c,λb cs hi c=>h.box b cs (by omega) c⟩
theorem MovesK.toMoves{μ a:Nat->Value}{H b:Heap}(h:MovesK H.length μ H a b):Moves μ H a b:=⟨h.len,h.row,h.box⟩
theorem MovesK.trans{k:Nat}{μ e d:Nat->Value}{H l j:Heap}(a:MovesK k μ H e l)(b:MovesK k e l d j):MovesK k μ H d j where
 len:=b.len;row c f sz xs hi g:=by let⟨r,h,i,u,p⟩:=b.row c f sz xs hi g;let⟨s,q,o,v,n⟩:=a.row c r sz h hi i;grind
 box c cs hi g:=by let⟨m,i,p⟩:=b.box c cs hi g;let⟨t,o,n⟩:=a.box c m hi i;grind
def UH(gc:Option Nat)(k:Nat):Bool:=match gc with|none=>true|some j=>decide (k<=j)
section


variable{Γ:Ctx}{N:Names}{w:World}{S:Nat->Prop}{μ:Nat->Value}{H:Heap}{a:Act}{env:Env}
theorem Env.Rel.prune(d:Env.Rel Γ N w S μ H (look env) a)(b:List Nat):Env.Rel Γ N w S μ H (look (Ab.prune b env)) a:=⟨λt=>by
  rw[Nv];split;·exact d.env t
  ·exact .any _,d.gl⟩
theorem OA(C:Ab.Rel N.fn w S μ H)(s:Env.Rel Γ N w S μ H (look env) a){c:List Nat}{A:Option Nat}{e:Env}{h:Heap}(l:norm c A env H=some (e,h)):∃i,Run N.fn w S μ H w S i h/\(∀k,UH A k=true->k<=H.length->MovesK k μ H i h)/\Env.Rel Γ N w S i h (look e) a:=by
 simp[norm]at l;split at l
 ·rename_i j;split at l
  ·rename_i J I B m;simp[]at l;obtain⟨rfl,rfl⟩:=l;refine⟨_,sx C (jk _ _ _ List.nodup_range) m,(λk u E=>?_),λt=>?_,s.gl⟩
   ·let⟨X,D⟩:=lC (H:=H) 64 (((prune c env).flatMap λx=>x.2.refs)++(H.take j).flatMap Blk.refs) (List.range j);have G:k<=j:=by simpa[UH]using u
    generalize fP H 64 (((prune c env).flatMap λx=>x.2.refs)++(H.take j).flatMap Blk.refs) (List.range j)=L at D B m;have o:∀d,d<k->L[d]?=some d:=λd hi=>by grind
    refine⟨?_,λd f sz xs hi r=>?_,λd cs hi r=>?_⟩;·rw[(cx m).1,D,List.length_append,List.length_range];omega
    ·let⟨q,b,n,p,z⟩:=lW m r;rw[o d hi]at n;cases n;rw[Blk.ren_row_inv z]at p;exact⟨f,xs,p,Nat.le_refl _,λ_=>by simp[picked,o d hi]⟩
    ·let⟨q,b,n,p,z⟩:=lW m r;rw[o d hi]at n;cases n;obtain⟨y,rfl,_⟩:=Blk.ren_box_inv z;exact⟨y,p,by simp[picked,o d hi]⟩
   rcases Ke (t:=t) B with h|⟨v,F,h⟩;·rw[h];exact .any _
   ·refine Co (sG m) 3 ?_ h;rw[<-F];exact(s.prune c).env t
  grind
 ·simp[]at l;obtain⟨rfl,rfl⟩:=l;exact⟨μ,.refl C,λ_ _ u=>Moves.refl.toK u,s.prune c⟩
end
end Ab
