import Derived.Test.YtbehhmffelnmfaaGreatDoorAbY2
set_option linter.all false
namespace Ab
open Go (Act Addr Calls Oper Operand Program Result Sem TypeId Value World execOp maxLen undef)
def iK:List Value->Value|[v]=>v|vs=>.tuple vs.toArray
def Enters(P:Program)(f:Nat):Prop:=∀us w,(Go.callFunc f us).run P w=.ok (.enter f us) w
def Does(P:Program)(f:Nat)(us:Array Value)(w:World)(R:Value->World->Prop):Prop:=((Go.callFunc f us).run P w=.ok (.enter f us) w/\Calls P f us w λe w'=>∃v,e=.returned v/\R v w')\/∃v w',(Go.callFunc f us).run P w=.ok (.value v) w'/\R v w'
theorem Does.mono{P:Program}{f:Nat}{us:Array Value}{w:World}{R g:Value->World->Prop}(h:Does P f us w R)(d:∀v a,R v a->g v a):Does P f us w g:=by
 rcases h with⟨c,b⟩|⟨v,a,c,b⟩;·exact .inl ⟨c,b.mono λe a⟨v,i,j⟩=>⟨v,i,d v a j⟩⟩
 ·exact .inr ⟨v,a,c,d v a b⟩
structure Run(ν:Nat->Nat)(w:World)(S:Nat->Prop)(μ:Nat->Value)(H:Heap)(w':World)(S':Nat->Prop)(μ':Nat->Value)(H':Heap):Prop where
 rel:Rel ν w' S' μ' H'
 ext:Ext w S μ H w' S' μ' H'
theorem Step.run{ν w S μ H b c a d}(h:Step ν w S μ H b c a d):Run ν w S μ H b c a d:=⟨h.rel,h.ext⟩
theorem Run.trans{ν w S μ H f i c j e g d h}(a:Run ν w S μ H f i c j)(b:Run ν f i c j e g d h):Run ν w S μ H e g d h:=⟨b.rel,a.ext.trans b.ext⟩
theorem Run.refl{ν w S μ H}(h:Rel ν w S μ H):Run ν w S μ H w S μ H:=⟨h,Ext.refl⟩
def iL(Γ:Ctx)(N:Names)(P:Program)(cal:Nat->List AV->Heap->Option (List AV×Heap)):Prop:=∀f args H rs H',cal f args H=some (rs,H')->∀w S μ us,Rel N.fn w S μ H->GlRel Γ N w S->All2 (λu x=>RelV N.fn w S μ H x u) us args->Does P (N.fn f) us.toArray w (λv w'=>∃vs S' μ',v=iK vs/\Run N.fn w S μ H w' S' μ' H'/\(ir Γ H.length f=true->Moves μ H μ' H')/\All2 (λu x=>RelV N.fn w' S' μ' H' x u) vs rs)
section


variable{Γ:Ctx}{N:Names}{P:Program}{w:World}{S T:Nat->Prop}{μ:Nat->Value}{H:Heap}{σ:Nat->AV}{a:Act}{cal:Nat->List AV->Heap->Option (List AV×Heap)}
theorem Sn(a:∀g,T g->g<w.heap.size):Rel N.fn w T (λ_=>undef) []where
 lt:=a;blk:=by simp
 apart g h:=by let⟨c,d,e⟩:=h;grind
 inj:=by simp
theorem All2.map_right{d b c:Type}{R:d->c->Prop}{f:b->c}:∀{xs:List d}{ys:List b},All2 (λx y=>R x (f y)) xs ys->All2 R xs (ys.map f)|[],[],_=>trivial|_::_,_::_,h=>⟨h.1,h.2.map_right⟩|[],_::_,h=>by cases h|_::_,[],h=>by cases h
theorem All2.append{e d:Type}{R:e->d->Prop}:∀{xs b:List e}{ys a:List d},All2 R xs ys->All2 R b a->All2 R (xs++b) (ys++a)|[],_,[],_,_,h=>h|_::_,_,_::_,_,h,f=>⟨h.1,h.2.append f⟩|[],_,_::_,_,h,_=>by cases h|_::_,_,[],_,h,_=>by cases h
theorem All2.of_get{e c:Type}{R:e->c->Prop}:∀{xs:List e}{ys:List c},xs.length=ys.length->(∀(j:Nat)x y,xs[j]?=some x->ys[j]?=some y->R x y)->All2 R xs ys|[],[],_,_=>trivial|x::xs,y::ys,h,d=>⟨d 0 x y rfl rfl,All2.of_get (by grind) λj a b g f=>d (j+1) a b (by grind) (by grind)⟩|[],_::_,h,_=>by grind|_::_,[],h,_=>by grind
theorem All2.get{d c:Type}{R:d->c->Prop}:∀{xs:List d}{ys:List c},All2 R xs ys->xs.length=ys.length/\∀(j:Nat)x y,xs[j]?=some x->ys[j]?=some y->R x y
 |[],[],_=>⟨rfl,by simp⟩|x::xs,y::ys,h=>by let⟨k,i⟩:=h.2.get;refine⟨by grind,λj a b f e=>?_⟩;cases j with|zero=>simp[]at f e;subst f e;exact h.1|succ j=>grind
 |[],_::_,h=>by cases h|_::_,[],h=>by cases h
theorem jS{d:Nat}{R:Value->PV->Prop}:∀{a:List AV}{us:List Value}{ps:List PV},All2 (λu x=>RelV N.fn w S μ H x u) us a->mapO (aI H d) a=some ps->(∀v∈a,∀u p,RelV N.fn w S μ H v u->aI H d v=some p->R u p)->All2 R us ps
 |[],[],ps,_,h,_=>by simp[mapO,]at h;subst h;trivial|v::a,u::us,ps,c,h,e=>by
  simp[mapO]at h;split at h
  ·rename_i p f;split at h;·rename_i i b;simp[]at h;subst h;exact⟨e v (by simp) u p c.1 f,jS c.2 b λx j=>e x (by grind)⟩
   grind
  grind|[],_::_,_,h,_,_=>by cases h|_::_,[],_,h,_,_=>by cases h
theorem ms(d:iL Γ N P cal)(E:∀g,T g->g<w.heap.size)(t:GlRel Γ N w T){f:Nat}{ps rs:List PV}{us:List Value}{r:List AV×Heap}(B:All2 (λu p=>RelP N.fn w T p u) us ps)(D:cal f (ps.map .p) []=some r)(s:mapO (aI r.2 4) r.1=some rs):Does P (N.fn f) us.toArray w (λv i=>∃l,v=iK l/\Grows w i/\All2 (λu p=>RelP N.fn i (λg=>T g\/(w.heap.size<=g/\g<i.heap.size)) p u) l rs):=by
 refine(d f _ _ r.1 r.2 D w T (λ_=>undef) us (Sn E) t (All2.map_right (B.imp λu p h=>.p _ _ h))).mono ?_;rintro e i⟨l,y,z,rfl,a,_,A⟩;have n:∀g,¬alive (λ_=>undef) [] g:=λg h=>by let⟨m,H,F⟩:=h;grind
 have o:∀g,y g->T g\/(w.heap.size<=g/\g<i.heap.size):=λg h=>by
  by_cases c:g<w.heap.size;·rcases a.ext.new g h c with h|h;all_goals grind
  ·exact .inr ⟨by omega,a.rel.lt g h⟩
 refine⟨l,rfl,⟨a.ext.os,a.ext.tape,a.ext.output,a.ext.size,λg c=>a.ext.keep g c (n g)⟩,?_⟩;refine jS A s λv _ u p q C=>tj a.rel o (λm b g k c=>?_) 4 q C;by_cases x:g<w.heap.size
 ·have :y g:=by have j:=a.rel.blk m b k;cases b with
   |box cs=>exact absurd (a.ext.own g ⟨m,c,.inl ⟨cs,k⟩⟩ x) (n g)|row f sz xs=>cases f with|true=>let⟨_,_,us,_,_,_,I⟩:=j;grind|false=>exact absurd (a.ext.own g ⟨m,c,.inr ⟨sz,xs,k⟩⟩ x) (n g)
   |dead=>exact j g c
  grind
 ·exact .inr ⟨by omega,a.rel.blk_lt k c⟩
theorem ic{g:Nat->Prop}{b:Nat->Value}{f:Heap}:∀{d:List Value}{rs:List AV},All2 (λu x=>RelV N.fn w g b f x u) d rs->RelV N.fn w g b f (results rs) (iK d)
 |[v],[r],h=>h.1|[],[],_=>.tup [] #[] rfl (by simp)|v::l::d,r::o::rs,h=>by
  have :=h.get;refine .tup _ _ (by grind) λj c i=>?_;let⟨n,k⟩:=this;have e:j<(v::l::d).length:=by grind
  have :=k j _ c (List.getElem?_eq_getElem e) i;simpa[Array.getD_eq_getD_getElem?,List.getElem?_eq_getElem e]using this|[],_::_,h=>by cases h|_::_,[],h=>by cases h|[_],_::_::_,h=>by cases h.2|_::_::_,[_],h=>by cases h.2
theorem kD{e:AV}{u:Value}{d:Nat×List AV}(h:RelV N.fn w S μ H e u)(a:callee e=some d):∃us:Array Value,u=.func (.func (N.fn d.1)) #[] us/\All2 (λu x=>RelV N.fn w S μ H x u) us.toList d.2:=by
 unfold callee at a;split at a;·rename_i f cs;simp[]at a;subst a;cases h with|p _ _ h=>cases h with|clo _ _ us i k c=>refine⟨us,rfl,All2.map_right (.of_get (by grind) λj x y g b=>.p _ _ ?_)⟩;have :=c j y b;simp_all
 ·rename_i f cs;simp[]at a;subst a;cases h with|clo _ _ us i k c=>refine⟨us,rfl,.of_get (by grind) λj x y g b=>?_⟩;have :=c j y b;simp_all
 grind
theorem kY{o:Oper}{b:Operand}{xs:List Operand}{k:List TypeId}{g:Nat}{us:Array Value}(h:jY o=some (.value b,xs,k))(e:a.eval b=.func (.func g) #[] us):(execOp a.eval o).run P w=(Go.callFunc g (xs.map a.eval++us.toList).toArray).run P w:=by
 unfold jY at h;split at h
 ·rename_i c d;simp[]at h;let⟨f,n,l⟩:=h;have j:c.args.map a.eval=(xs.map a.eval).toArray:=by grind
  have i:((xs.map a.eval).toArray++us)=(xs.map a.eval++us.toList).toArray:=by simp
  simp[execOp,d,Go.resolve,f,Go.Deferred.ofValue,e,Go.invoke,j,i]
 grind
def JD(N:Names)(P:Program)(w:World)(S:Nat->Prop)(μ:Nat->Value)(H:Heap)(o:Oper)(a:Act)(v:AV)(H':Heap):Prop:=∃f us,(execOp a.eval o).run P w=(Go.callFunc f us).run P w/\Does P f us w λu w'=>∃S' μ',Step N.fn w S μ H w' S' μ' H'/\RelV N.fn w' S' μ' H' v u
theorem Env.Rel.glrel(b:Env.Rel Γ N w S μ H σ a):GlRel Γ N w S:=b.gl
theorem GlRel.more(h:GlRel Γ N w S)(c:∀g,S g->T g):GlRel Γ N w T:=⟨λn cs a=>(h.rel n cs a).more c,h.whole,λn a=>⟨c _ (h.ints n a).1,(h.ints n a).2⟩⟩
theorem Ff:∀{l:List AV},allP l=true->∀v∈l,∃p,v=.p p
 |[],_=>by simp|v::l,h=>by
  cases v<;>simp[allP,]at h;rename_i p;intro x a;rcases List.mem_cons.1 a with rfl|a;·simp
  ·exact Ff h x a
theorem LH{c:AV}{b:Nat×List AV}(d:c.isP=true)(a:callee c=some b):∀v∈b.2,∃p,v=.p p:=by
 unfold callee at a;split at a;·grind
 ·cases d
 grind
theorem BU(l:iL Γ N P cal){o:Oper}{f:Arg}{args:List Arg}{v:AV}(E:chkQ P N o (.call f args)=true)(F:Env.Rel Γ N w S μ H σ a)(i:Rel N.fn w S μ H)(d:evQ Γ cal σ H (.call f args)=some v):JD N P w S μ H o a v H:=by
 simp[chkQ]at E;split at E;rotate_left;·grind
 rename_i Z O X K;simp[]at E;have M:=F.arg E.1;have V:=F.args E.2;simp only[evQ,vv,Option.bind_eq_some_iff]at d;let⟨rs,⟨W,B,ps,A,r,C,z⟩,d⟩:=d;simp[ifB]at d;split at d;rotate_left;·grind
 rename_i hB;simp[]at d;subst d;let⟨L,D,y⟩:=kD M B;have m:=V.append y;by_cases J:(allP (args.map (Arg.ev Γ σ))&&(f.ev Γ σ).isP)=true
 ·simp[]at J;have c:=jS m A λv d u p t s=>by
   have :∃q,v=.p q:=by
    rcases List.mem_append.1 d with h|h;·exact Ff J.1 v h
    ·exact LH J.2 B v h
   obtain⟨q,rfl⟩:=this;simp[aI,]at s;subst s;exact t.p_inv
  have G:=ms l i.lt F.glrel c C z;refine⟨_,_,kY K D,G.mono ?_⟩;rintro e Q⟨T,rfl,x,n⟩;refine⟨_,μ,.grow i x (λg h=>.inl h) (λg h=>?_) (λg h=>?_),ic (All2.map_right (n.imp λu p h=>.p _ _ h))⟩
  ·rcases h with h|h;·exact Nat.lt_of_lt_of_le (i.lt g h) x.size
   grind
  grind
 ·have I:rs.all flat=true:=by grind
  have c:=jS m A λv d u p t s=>tj i i.lt (λid b g U x=>i.blk_lt U x) 4 t s;have G:=ms l (λg h=>h) (F.glrel.more i.lt) c C z;refine⟨_,_,kY K D,G.mono ?_⟩;rintro e Q⟨T,rfl,x,n⟩;refine⟨S,μ,.grow i x (λg h=>h) (λg h=>Nat.lt_of_lt_of_le (i.lt g h) x.size) (λg h=>.inl h),ic (All2.map_right ?_)⟩;have :=n.get;refine .of_get this.1 λj u p R s=>.p _ _ (LX (List.all_eq_true.1 I p (List.mem_of_getElem? s)) (this.2 j u p R s))
theorem Ad(n:iL Γ N P cal){o:Oper}{f:Arg}{args:List Arg}{v:AV}(x:chkQ P N o (.callr f args)=true)(E:Env.Rel Γ N w S μ H σ a)(k:Rel N.fn w S μ H)(s:evQ Γ cal σ H (.callr f args)=some v):JD N P w S μ H o a v H:=by
 simp[chkQ]at x;split at x;rotate_left;·grind
 rename_i f' T Ts Y;simp[]at x;have V:=E.arg x.1;have X:=E.args x.2;simp only[evQ,uA,Option.bind_eq_some_iff,Option.map_eq_some_iff,ifB_some]at s;obtain⟨rs,⟨Z,D,ps,L,r,A,B,F⟩,rfl⟩:=s;let⟨Q,C,j⟩:=kD V D;have q:=X.append j;have d:=jS q L λv s u p i J=>tj k k.lt (λI b g y l=>k.blk_lt y l) 4 i J;have G:∀g,(λg=>g<w.heap.size) g->g<w.heap.size:=λg h=>h;have M:=n Z.1 _ _ r.1 r.2 A w (λg=>g<w.heap.size) (λ_=>undef) _ (Sn G) (E.glrel.more k.lt) (All2.map_right (d.imp λu p h=>.p _ _ h));refine⟨_,_,kY Y C,M.mono ?_⟩;rintro e z⟨U,S',W,rfl,c,_,s⟩;have R:∀g,¬alive (λ_=>undef) [] g:=λg h=>by let⟨I,h1,M⟩:=h;grind
 have l:Grows w z:=⟨c.ext.os,c.ext.tape,c.ext.output,c.ext.size,λg l=>c.ext.keep g l (R g)⟩;refine⟨λg=>S g\/(w.heap.size<=g/\g<z.heap.size),μ,.grow k l (λg h=>.inl h) (λg h=>?_) (λg h=>?_),ic (All2.map_right ?_)⟩
 ·rcases h with h|h;·exact Nat.lt_of_lt_of_le (k.lt g h) l.size
  grind
 ·grind
 ·have t:All2 (λu p=>RelP N.fn z (λg=>S g\/(w.heap.size<=g/\g<z.heap.size)) p u) U rs:=jS s F λv K u p i J=>frR_rel c.rel (λI sz xs g y m=>by
   refine .inr ⟨?_,c.rel.blk_lt y m⟩;rcases Nat.lt_or_ge g w.heap.size with O|O;·exact absurd (c.ext.own g ⟨I,m,.inr ⟨sz,xs,y⟩⟩ O) (R g)
   grind) (List.all_eq_true.1 B v K) i J;exact t.imp λu p h=>.p _ _ h
theorem gJ:∀{l:List AV},pW l=true->∀v∈l,(∃p,v=.p p)\/∃c n,v=.own c n
 |[],_=>by simp|v::l,h=>by
  cases v<;>simp[pW,]at h
  ·rename_i p;intro x a;rcases List.mem_cons.1 a with rfl|a;·simp
   ·exact gJ h x a
  ·rename_i c n;intro x a;rcases List.mem_cons.1 a with rfl|a;·simp
   ·exact gJ h x a
theorem HW(I:iL Γ N P cal){o:Oper}{f:Arg}{args:List Arg}{v:AV}{H':Heap}(m:chkX P N o (.callf f args)=true)(R:Env.Rel Γ N w S μ H σ a)(hr:Rel N.fn w S μ H)(E:evX Γ cal σ H (.callf f args)=some (v,H')):JD N P w S μ H o a v H':=by
 simp[chkX]at m;split at m;rotate_left;·grind
 rename_i f' xs' Ts hy;simp[]at m;have hf:=R.arg m.1;have ha:=R.args m.2;simp[evX,ifB]at E;split at E;rotate_left;·grind
 rename_i D;simp[]at D;simp only[vv,Option.map_eq_some_iff,Option.bind_eq_some_iff,]at E;obtain⟨rs,⟨fc,F,ps,Y,r,hcr,T⟩,rfl,rfl⟩:=E;let⟨caps,X,C⟩:=kD hf F;have K:=ha.append C;let⟨S',t,L⟩:=nj ((args.map (Arg.ev Γ σ)).flatMap AV.cells) hr;have own:∀{l n u p d},AV.own l n∈(args.map (Arg.ev Γ σ)).flatMap AV.cells->RelV N.fn w S μ H (.own l n) u->aI H (d+1) (.own l n)=some p->RelP N.fn w S' p u:=by intro l n u p d Q k b;simp only[aI,Option.map_eq_some_iff]at b;obtain⟨rr,J,rfl⟩:=b;let⟨fz,hb,hn⟩:=cl J;rw[k.own_inv J];let⟨f1,Z,W⟩:=L l fz rr.1 rr.2 hb;have :=W (.inl ⟨n,Q⟩);subst this;refine pj hr hb t.ext.more λg hg=>?_;let⟨_,_,us,_,_,_,h4⟩:=t.rel.blk l _ Z;grind
 have G:∀{c u p d},c∈(args.map (Arg.ev Γ σ)).flatMap AV.cells->RelV N.fn w S μ H c u->aI H (d+1) c=some p->RelP N.fn w S' p u:=by
  intro c u p d Q k b;rcases gJ D.1 c Q with⟨q,rfl⟩|⟨l,n,rfl⟩;·simp[aI,]at b;subst b;exact k.p_inv.more t.ext.more
  grind
 have A:=jS K Y λv E u p k b=>by
  rcases List.mem_append.1 E with h|h;·have s:∀c∈v.cells,c∈(args.map (Arg.ev Γ σ)).flatMap AV.cells:=λc m=>List.mem_flatMap.2 ⟨v,h,m⟩;cases v with
   |p q=>simp[aI,]at b;subst b;exact k.p_inv.more t.ext.more|own l n=>exact own (s _ (by simp[AV.cells])) k b|agg cs=>rw[show aI H 4 (.agg cs)=(mapO (aI H 3) cs).map .agg from rfl,Option.map_eq_some_iff]at b;obtain⟨qs,U,rfl⟩:=b;let⟨h1,O⟩:=cx U;cases k with|agg _ us h3 h4 h5=>
     refine .agg qs us (by grind) (λc m=>?_) (λj c m=>?_);·let⟨j,hj⟩:=List.getElem?_of_mem m;let⟨x,M,B⟩:=O j c hj;exact mw B (h4 x (List.mem_of_getElem? M))
     ·let⟨x,M,B⟩:=O j c m;exact G (s x (List.mem_of_getElem? M)) (h5 j x M) B|bx l z=>rcases gJ D.1 _ (s (.bx l z) (by simp[AV.cells]))with⟨_,h⟩|⟨_,_,h⟩<;>cases h|el l n i z=>rcases gJ D.1 _ (s (.el l n i z) (by simp[AV.cells]))with⟨_,h⟩|⟨_,_,h⟩<;>cases h|mp l=>simp[aI]at b|clo f cs=>rcases gJ D.1 _ (s (.clo f cs) (by simp[AV.cells]))with⟨_,h⟩|⟨_,_,h⟩<;>cases h|tup cs=>simp[aI]at b|nov=>simp[aI]at b|any=>simp[aI]at b
  ·obtain⟨q,rfl⟩:=LH D.2 F v h;simp[aI,]at b;subst b;exact k.p_inv.more t.ext.more
 have O:=ms I t.rel.lt (R.glrel.more t.ext.more) A hcr T;refine⟨_,_,kY hy X,O.mono ?_⟩;rintro e w'⟨vs,rfl,hg,V⟩;refine⟨_,μ,t.trans (.grow t.rel hg (λg h=>.inl h) (λg h=>?_) (λg h=>?_)),ic (All2.map_right (V.imp λu p h=>.p _ _ h))⟩
 ·rcases h with h|h;·exact Nat.lt_of_lt_of_le (t.rel.lt g h) hg.size
  grind
 grind
end
theorem gK:∀{L:List Nat}{a i:Nat},place L a=some i->L[i]?=some a
 |x::r,a,i,h=>by
  simp[place]at h;split at h;·grind
  ·obtain⟨j,c,rfl⟩:=Option.map_eq_some_iff.1 h;simpa using gK c|[],_,_,h=>by cases h
theorem jk{H:Heap}:∀(n:Nat)(c acc:List Nat),acc.Nodup->(fP H n c acc).Nodup
 |0,_,acc,h=>by simpa[fP]using h|_+1,[],acc,h=>by simpa[fP]using h|n+1,j::r,acc,h=>by
  unfold fP;split;·exact jk n r acc h
  ·rename_i f;refine jk n _ _ (List.nodup_append.2 ⟨h,by simp,λa g b i e=>?_⟩);grind
section


variable{N:Names}{w:World}{S:Nat->Prop}{μ:Nat->Value}{H H':Heap}{L:List Nat}
def picked(μ:Nat->Value)(L:List Nat):Nat->Value:=λi=>match L[i]? with|some id=>μ id|none=>undef
theorem lW(d:Heap.pick H L=some H'){i:Nat}{a:Blk}(f:H'[i]?=some a):∃c b,L[i]?=some c/\H[c]?=some b/\Blk.ren (place L) b=some a:=by let⟨_,h⟩:=cx d;grind
theorem HY{r:Nat->Option Nat}{d:Nat}{v a:AV}(h:AV.ren r d v=some a)(b:v.one=true):a.one=true:=by
 cases v<;>simp[AV.one,]at b;case p v=>cases d<;>(simp[AV.ren,]at h;subst h;exact b)
 case own=>cases d<;>(simp[AV.ren,]at h;obtain⟨_,_,rfl⟩:=h;rfl)
 case bx=>cases d<;>(simp[AV.ren,]at h;obtain⟨_,_,rfl⟩:=h;rfl)
 case el=>cases d<;>(simp[AV.ren,]at h;obtain⟨_,_,rfl⟩:=h;rfl)
 case mp=>cases d<;>(simp[AV.ren,]at h;obtain⟨_,_,rfl⟩:=h;rfl)
 case clo f cs=>cases d with|zero=>simp[AV.ren]at h|succ d=>rw[show AV.ren r (d+1) (.clo f cs)=(mapO (AV.ren r d) cs).map (.clo f)from rfl,Option.map_eq_some_iff]at h;obtain⟨_,_,rfl⟩:=h;rfl
theorem sM{r:Nat->Option Nat}{d:Nat}{b:Nat->Value}{cs a:List AV}{us:Array Value}(i:mapO (AV.ren r d) cs=some a)(p:us.size=cs.length)(o:∀j c,cs[j]?=some c->RelV N.fn w S μ H c (us.getD j undef))(q:∀{v g u},RelV N.fn w S μ H v u->AV.ren r d v=some g->RelV N.fn w S b H' g u):us.size=a.length/\((∀c∈cs,c.one=true)->∀c∈a,c.one=true)/\∀(j:Nat)c,a[j]?=some c->RelV N.fn w S b H' c (us.getD j undef):=by
 let⟨s,n⟩:=cx i;refine⟨by grind,λh c f=>?_,λj c f=>?_⟩;·let⟨j,m⟩:=List.getElem?_of_mem f;let⟨x,k,e⟩:=n j c m;exact HY e (h x (List.mem_of_getElem? k))
 grind
def Emb(r:Nat->Option Nat)(μ:Nat->Value)(H:Heap)(μ':Nat->Value)(H':Heap):Prop:=∀id i,id<H.length->r id=some i->i<H'.length/\μ' i=μ id/\∀b',H'[i]?=some b'->∃b,H[id]?=some b/\Blk.ren r b=some b'
theorem Blk.ren_row_inv{r:Nat->Option Nat}{b:Blk}{f sz xs}(h:Blk.ren r b=some (.row f sz xs)):b=.row f sz xs:=by cases b with|box cs=>simp only[Blk.ren,Option.map_eq_some_iff]at h;grind|row d a c=>simp[Blk.ren,]at h;grind|dead=>simp[Blk.ren]at h
theorem Blk.ren_box_inv{r:Nat->Option Nat}{b:Blk}{a}(h:Blk.ren r b=some (.box a)):∃cs,b=.box cs/\mapO (AV.ren r 3) cs=some a:=by cases b with|box cs=>simp[Blk.ren,]at h;grind|row e c d=>simp[Blk.ren]at h|dead=>simp[Blk.ren]at h
theorem sG(a:Heap.pick H L=some H'):Emb (place L) μ H (picked μ L) H':=by have c:=(cx a).1;intro j i _ h;have hi:=gK h;refine⟨by grind,by simp[picked,hi],λm e=>?_⟩;let⟨d,b,k,l,g⟩:=lW a e;grind
theorem Co{r:Nat->Option Nat}{s:Nat->Value}(I:Emb r μ H s H'):∀(d:Nat){v l:AV}{u:Value},RelV N.fn w S μ H v u->AV.ren r d v=some l->RelV N.fn w S s H' l u:=by
 have o:=λ{q i}=>I q i;have E:∀(d:Nat){v l:AV}{u:Value},RelV N.fn w S μ H v u->AV.ren r d v=some l->(∀cs,v≠.agg cs)->(∀cs,v≠.tup cs)->(∀f cs,v≠.clo f cs)->RelV N.fn w S s H' l u:=by intro d v l u h a k F z;cases h with
  |p v u h=>cases d<;>(simp[AV.ren,]at a;subst a;exact .p _ _ h)|own q n u y h k=>
   have a:(r q).map (AV.own · n)=some l:=by cases d<;>simpa only[AV.ren]using a
   obtain⟨i,hi,rfl⟩:=Option.map_eq_some_iff.1 a;let⟨t,K,x⟩:=o y hi;refine .own i n u t (λf sz xs e=>?_) k;let⟨b,A,c⟩:=x _ e;rw[Blk.ren_row_inv c]at A;grind|bx q m g u y h k=>
   have a:(r q).map (AV.bx · m)=some l:=by cases d<;>simpa only[AV.ren]using a
   obtain⟨i,hi,rfl⟩:=Option.map_eq_some_iff.1 a;let⟨t,K,x⟩:=o y hi;refine .bx i m g u t (λcs e=>?_) k;let⟨b,A,c⟩:=x _ e;obtain⟨j,rfl,_⟩:=Blk.ren_box_inv c;grind|el q n L m u y h k=>
   have a:(r q).map (AV.el · n L m)=some l:=by cases d<;>simpa only[AV.ren]using a
   obtain⟨i,hi,rfl⟩:=Option.map_eq_some_iff.1 a;let⟨t,K,x⟩:=o y hi;refine .el i n L m u t (λf sz xs e=>?_) k;let⟨b,A,c⟩:=x _ e;rw[Blk.ren_row_inv c]at A;grind|mp q g u y h k=>
   have a:(r q).map AV.mp=some l:=by cases d<;>simpa only[AV.ren]using a
   obtain⟨i,hi,rfl⟩:=Option.map_eq_some_iff.1 a;let⟨t,K,x⟩:=o y hi;refine .mp i g u t (λcs e=>?_) k;let⟨b,A,c⟩:=x _ e;obtain⟨j,rfl,_⟩:=Blk.ren_box_inv c;grind|nov=>cases d<;>(simp[AV.ren,]at a;subst a;exact .nov)|any u=>cases d<;>(simp[AV.ren,]at a;subst a;exact .any _)|agg cs=>grind|tup cs=>grind|clo f cs=>grind
 intro d;induction d with|zero=>
  intro v l u h a;refine E 0 h a ?_ ?_ ?_;·rintro cs rfl;simp[AV.ren]at a
  ·rintro cs rfl;simp[AV.ren]at a
  ·rintro f cs rfl;simp[AV.ren]at a|succ d J=>
  intro v l u h a;by_cases P:∃cs,v=.agg cs;·obtain⟨cs,rfl⟩:=P;rw[show AV.ren r (d+1) (.agg cs)=(mapO (AV.ren r d) cs).map .agg from rfl,Option.map_eq_some_iff]at a;obtain⟨j,C,rfl⟩:=a;cases h with|agg _ us k F z=>let⟨B,G,D⟩:=sM C k z J;exact .agg j us B (G F) D
  ·by_cases Q:∃cs,v=.tup cs;·obtain⟨cs,rfl⟩:=Q;rw[show AV.ren r (d+1) (.tup cs)=(mapO (AV.ren r d) cs).map .tup from rfl,Option.map_eq_some_iff]at a;obtain⟨j,C,rfl⟩:=a;cases h with|tup _ us k z=>let⟨B,G,D⟩:=sM C k z J;exact .tup j us B D
   ·by_cases O:∃f cs,v=.clo f cs;·obtain⟨f,cs,rfl⟩:=O;rw[show AV.ren r (d+1) (.clo f cs)=(mapO (AV.ren r d) cs).map (.clo f)from rfl,Option.map_eq_some_iff]at a;obtain⟨j,C,rfl⟩:=a;cases h with|clo _ _ us k F z=>let⟨B,G,D⟩:=sM C k z J;exact .clo f j us B (G F) D
    grind
theorem ren_ok{r:Nat->Option Nat}{d:Nat}{v e:AV}(h:AV.ren r d v=some e)(c:v.ok=true):e.ok=true:=by cases v with
 |p v=>cases d<;>simp[AV.ren]at h<;>subst h<;>rfl|own b n=>cases d<;>simp[AV.ren,]at h<;>obtain⟨_,_,rfl⟩:=h<;>rfl|bx b n=>cases d<;>simp[AV.ren,]at h<;>obtain⟨_,_,rfl⟩:=h<;>rfl|el b n i o=>cases d<;>simp[AV.ren,]at h<;>obtain⟨_,_,rfl⟩:=h<;>rfl|mp b=>cases d<;>simp[AV.ren,]at h<;>obtain⟨_,_,rfl⟩:=h<;>rfl|agg cs=>cases d with|zero=>simp[AV.ren]at h|succ d=>simp[AV.ren,]at h;obtain⟨_,_,rfl⟩:=h;rfl
 |clo f cs=>cases d with|zero=>simp[AV.ren]at h|succ d=>simp[AV.ren,]at h;obtain⟨_,_,rfl⟩:=h;rfl
 |tup cs=>cases c|nov=>cases c|any=>cases c
theorem KB{r:Nat->Option Nat}:∀{d:List (PV×AV)}{b:List AV},mapO (AV.ren r 3) (ki d)=some b->∃a,b=ki a/\a.length=d.length/\∀(j:Nat)k v,a[j]?=some (k,v)->∃f,d[j]?=some (k,f)/\AV.ren r 3 f=some v
 |[],b,h=>by simp[ki,mapO,]at h;subst h;exact⟨[],rfl,rfl,λj k v i=>by grind⟩|(k,v)::d,b,h=>by
  simp[ki,mapO,AV.ren]at h;split at h
  ·rename_i xs c;simp[]at h;subst h;split at c
   ·rename_i l n;split at c;·rename_i ys e;simp[]at c;subst c;obtain⟨a,rfl,m,o⟩:=KB e;refine⟨(k,l)::a,rfl,by grind,λj k1 p i=>?_⟩;grind
    grind
   grind
  grind
theorem renMapC{r:Nat->Option Nat}{f:List (PV×AV)}{d:List AV}(h:mapO (AV.ren r 3) (ak f)=some d):∃a,d=ak a/\a.length=f.length/\∀(j:Nat)k v,a[j]?=some (k,v)->∃g,f[j]?=some (k,g)/\AV.ren r 3 g=some v:=by
 unfold ak at h;simp[mapO,AV.ren]at h;split at h
 ·rename_i xs b;simp[]at h;subst h;split at b;·rename_i ys e;simp[]at b;subst b;obtain⟨a,rfl,l,i⟩:=KB e;exact⟨a,rfl,l,i⟩
  grind
 grind
theorem Te{r:Nat->Option Nat}{c:Nat->Value}(C:Emb r μ H c H'){A i:Nat}{b D:Blk}(o:BlkRel N.fn w S μ H A b)(h:Blk.ren r b=some D)(d:c i=μ A):BlkRel N.fn w S c H' i D:=by cases b with
 |box cs=>
  simp[Blk.ren,]at h;obtain⟨P,m,rfl⟩:=h;obtain⟨g,T,⟨us,t,l,B,y,O⟩|⟨s,x,rfl,l⟩|⟨U,u,a,rfl,l,p,B,y⟩⟩:=o;·let⟨E,z,Q⟩:=sM m B O (Co C 3);exact⟨g,by grind,.inl ⟨us,t,l,E,z y,Q⟩⟩
  ·simp[bX,mapO,AV.ren,]at m;subst m;exact⟨g,by grind,.inr (.inl ⟨s,x,rfl,l⟩)⟩
  ·obtain⟨n,rfl,E,z⟩:=renMapC m;refine⟨g,by grind,.inr (.inr ⟨n,u,a,rfl,l,p,by grind,λj k v K=>?_⟩)⟩;let⟨L,q,F⟩:=z j k v K;let⟨e,R,J,I,M⟩:=y j k L q;exact⟨e,R,J,ren_ok F I,Co C 3 M F⟩|row f sz xs=>simp[Blk.ren,]at h;subst h;simp[BlkRel,d];exact o|dead=>simp[Blk.ren,]at h;subst h;simp[BlkRel,d];exact o
theorem kV{r:Nat->Option Nat}{b a:Blk}(h:Blk.ren r b=some a)(c:cW a):cW b:=by
 rcases c with⟨cs,rfl⟩|⟨sz,xs,rfl⟩;·obtain⟨d,rfl,_⟩:=Blk.ren_box_inv h;exact .inl ⟨_,rfl⟩
 ·rw[Blk.ren_row_inv h];exact .inr ⟨_,_,rfl⟩
theorem xI{r:Nat->Option Nat}{b:Nat->Value}(g:Emb r μ H b H'){d:Nat}:∀{us:List Value}{c a:List AV},All2 (λu x=>RelV N.fn w S μ H x u) us c->mapO (AV.ren r d) c=some a->All2 (λu x=>RelV N.fn w S b H' x u) us a
 |[],[],a,_,h=>by simp[mapO,]at h;subst h;trivial|u::us,v::c,a,f,h=>by
  simp[mapO]at h;split at h
  ·rename_i x i;split at h;·rename_i xs e;simp[]at h;subst h;exact⟨Co g d f.1 i,xI g f.2 e⟩
   grind
  grind|[],_::_,_,h,_=>by cases h|_::_,[],_,h,_=>by cases h
theorem jZ(e:Heap.pick H L=some H'){i:Nat}{d:Blk}(f:H'[i]?=some d)(k:cW d):∃a b,L[i]?=some a/\H[a]?=some b/\cW b/\picked μ L i=μ a:=by let⟨a,b,c,g,j⟩:=lW e f;exact⟨a,b,c,g,kV j k,by simp[picked,c]⟩
theorem Uw{L:List Nat}(b:L.Nodup){i j x:Nat}(a:L[i]?=some x)(c:L[j]?=some x):i=j:=by let⟨d,h⟩:=List.getElem?_eq_some_iff.1 a;let⟨f,g⟩:=List.getElem?_eq_some_iff.1 c;have k:=List.pairwise_iff_getElem.1 b;grind
theorem uf{H:Heap}{i:Nat}(h:(∃cs,H[i]?=some (Blk.box cs))\/∃sz xs,H[i]?=some (Blk.row false sz xs)):∃b,H[i]?=some b/\cW b:=by
 rcases h with⟨cs,h⟩|⟨sz,xs,h⟩;·exact⟨_,h,.inl ⟨cs,rfl⟩⟩
 ·exact⟨_,h,.inr ⟨sz,xs,rfl⟩⟩
theorem sx(f:Rel N.fn w S μ H)(C:L.Nodup)(e:Heap.pick H L=some H'):Run N.fn w S μ H w S (picked μ L) H':=by
 have a:∀g,alive (picked μ L) H' g->alive μ H g:=λg h=>by let⟨i,u,d,c,p⟩:=alive_iff.1 h;let⟨l,b,_,E,r,K⟩:=jZ (μ:=μ) e d c;exact alive_iff.2 ⟨l,b,E,r,by grind⟩
 refine⟨⟨f.lt,λi u v=>?_,λg h=>f.apart g (a g h),λi j g hi G s z=>?_⟩,⟨rfl,rfl,rfl,Nat.le_refl _,λ_ _ _=>rfl,λ_ h=>h,λg h _=>.inl h,λg h _=>a g h⟩⟩;·let⟨l,b,d,c,p⟩:=lW e v;exact Te (sG e) (f.blk l b c) p (by simp[picked,d])
 ·let⟨I,d,D⟩:=uf s;let⟨O,c,t⟩:=uf z;let⟨y,M,x,k1,k,A⟩:=jZ (μ:=μ) e d D;let⟨B,F,q,k2,m,P⟩:=jZ (μ:=μ) e c t;have :=f.inj' k1 k2 k m (by rw[<-A];omega) (by grind);subst this;exact Uw C x q
theorem Pa(k:Rel N.fn w S μ H){c:Nat}{b0:Blk}(r:H[c]?=some b0):Step N.fn w S μ H w (λg=>S g\/aO (μ c)=some g) μ (H.set c (qa b0)):=by
 have m:∀(i:Nat)b,(H.set c (qa b0))[i]?=some b->(i=c/\b=qa b0)\/(i≠c/\H[i]?=some b):=by grind
 have F:Moves μ H μ (H.set c (qa b0)):=by
  refine⟨by simp,λi R J ys A h=>?_,λi cs A h=>?_⟩
  ·rcases m i _ h with⟨rfl,e⟩|⟨_,h⟩;·cases b0 with|row f sz xs=>simp[qa,]at e;grind|box=>cases e|dead=>cases e
   grind
  ·rcases m i _ h with⟨rfl,e⟩|⟨_,h⟩;·cases b0<;>cases e
   grind
 have P:¬cW (qa b0):=by rintro(⟨cs,e⟩|⟨a,b,e⟩)<;>(cases b0<;>cases e)
 have x:∀(i:Nat)b,(H.set c (qa b0))[i]?=some b->cW b->i≠c/\H[i]?=some b:=by grind
 have n:∀g,alive μ (H.set c (qa b0)) g->alive μ H g:=by intro g t;let⟨i,b,l,d,s⟩:=alive_iff.1 t;exact alive_iff.2 ⟨i,b,(x i b l d).2,d,s⟩
 have u:¬cW b0->∀g,aO (μ c)=some g->S g:=by intro C g o;have h:=k.blk c _ r;cases b0 with|box cs=>exact absurd (.inl ⟨cs,rfl⟩) C|dead=>exact h g o|row f sz xs=>cases f with|false=>exact absurd (.inr ⟨sz,xs,rfl⟩) C|true=>let⟨_,_,us,_,_,_,U⟩:=h;grind
 refine⟨⟨λg h=>?_,λi b h=>?_,λg t p=>?_,λi j g hi O Q L=>?_⟩,⟨rfl,rfl,rfl,Nat.le_refl _,λ_ _ _=>rfl,λg h=>.inl h,λg h _=>?_,λg h _=>n g h⟩,F⟩
 ·rcases h with h|h;·exact k.lt g h
  ·exact k.blk_lt r h
 ·have z:∀v,H[i]?=some v->BlkRel N.fn w (λg=>S g\/aO (μ c)=some g) μ (H.set c (qa b0)) i v:=λv B=>(k.blk i v B).keep (λ_ h=>.inl h) (λ_ _=>rfl) F rfl (λ_ _=>rfl);rcases m i b h with⟨rfl,rfl⟩|⟨_,h⟩;·have :=z _ r;cases b0 with
   |row f sz xs=>let⟨q,A,us,l,d,s,_⟩:=this;exact⟨q,A,us,l,d,s,λ_ g o=>.inr o⟩|box=>exactλg o=>.inr o|dead=>exactλg o=>.inr o
  grind
 ·rcases p with p|p;·exact k.apart g (n g t) p
  ·let⟨i,b,l,d,s⟩:=alive_iff.1 t;let⟨y,I⟩:=x i b l d;by_cases q:cW b0;·exact y (k.inj' I r d q s p)
   ·exact k.apart g (n g t) (u q g p)
 ·let⟨K,l,G⟩:=uf Q;let⟨M,d,E⟩:=uf L;exact k.inj' (x i K l G).2 (x j M d E).2 G E hi O
 ·rcases h with h|h;·grind
  ·by_cases q:cW b0;·exact .inr (alive_iff.2 ⟨c,_,r,q,h⟩)
   grind
theorem xE:∀(L:List Nat){S:Nat->Prop}{H:Heap},Rel N.fn w S μ H->∃a,Step N.fn w S μ H w a μ (kill H L)/\∀c∈L,∀b g,H[c]?=some b->aO (μ c)=some g->a g
 |[],S,H,d=>⟨S,.refl d,by simp⟩|c::L,S,H,d=>by simp only[kill];cases n:H[c]? with
  |none=>let⟨a,e,l⟩:=xE L d;grind|some b0=>
   have f:=Pa d n;let⟨a,e,l⟩:=xE L f.rel;refine⟨a,f.trans e,λi hi b g k j=>?_⟩;by_cases m:i=c;·subst m;exact e.ext.more g (.inr j)
   grind
theorem kU(k:Rel N.fn w S μ H){e:List AV}{us:List Value}{ps:List PV}(a:gg H e=some (ps,H'))(n:All2 (λu x=>RelV N.fn w S μ H x u) us e):∃d,Step N.fn w S μ H w d μ H'/\All2 (λu p=>RelP N.fn w d p u) us ps:=by unfold gg at a;let⟨r,q,a⟩:=Option.bind_eq_some_iff.1 a;let⟨HL,h,a⟩:=Option.bind_eq_some_iff.1 a;let⟨o,t,a⟩:=Option.map_eq_some_iff.1 a;simp[]at a;obtain⟨rfl,rfl⟩:=a;have m:=jk (H:=H) 64 (e.flatMap AV.refs) [] (by simp);let⟨d,j,A⟩:=xE (fP H 64 (e.flatMap AV.refs) []) k;have c:=sx k m h;refine⟨d,j,jS (xI (sG h) n q) t λv _ u p f y=>tj c.rel j.ext.more (λi b g l B=>?_) 4 f y⟩;let⟨z,b0,k1,k2,C⟩:=lW h l;exact A z (List.mem_of_getElem? k1) b0 g k2 (by simpa[picked,k1]using B)
end
theorem Kh:∀{L:List Nat}{i x:Nat},L.Nodup->L[i]?=some x->place L x=some i
 |[],i,x,_,h=>by grind|y::L,i,x,b,h=>by let⟨e,d⟩:=List.nodup_cons.1 b;simp[place];cases i with|zero=>grind|succ i=>
   have h:L[i]?=some x:=by grind
   have :y≠x:=by grind
   rw[if_neg this,Kh d h];rfl
theorem PB{L:List Nat}{x:Nat}(h:place L x=none):x∉L:=by induction L with|nil=>simp|cons y L b=>
  simp[place]at h;split at h;·grind
  ·rename_i a;simp[]at h;grind
theorem lC{H:Heap}:∀(n:Nat)(a acc:List Nat),∃X,fP H n a acc=acc++X
 |0,_,acc=>⟨[],by simp[fP]⟩|_+1,[],acc=>⟨[],by simp[fP]⟩|n+1,d::r,acc=>by
  unfold fP;split;·exact lC n r acc
  ·let⟨X,e⟩:=lC (H:=H) n (r++(match H[d]? with|some b=>b.refs|none=>[])) (acc++[d]);grind
theorem ii:∀{L:List Nat}{a:List Blk}{H:Heap},(dz H L a).length=H.length|[],a,H=>by cases a<;>rfl|c::L,[],H=>rfl|c::L,b::a,H=>by simp[dz];rw[ii];simp
theorem qI:∀{L:List Nat}{c:List Blk}{H:Heap}{a:Nat},L.Nodup->(∀x∈L,x<H.length)->L.length<=c.length->(dz H L c)[a]?=match place L a with|some i=>c[i]?|none=>H[a]?
 |[],c,H,a,_,_,_=>by cases c<;>rfl|x::L,[],H,a,_,_,h=>by grind|x::L,b::c,H,a,f,m,h=>by
  let⟨d,j⟩:=List.nodup_cons.1 f;simp[dz];rw[qI j (λy l=>by grind) (by grind)];simp[place];by_cases g:x=a
  ·subst g;have :place L x=none:=by cases k:place L x with|none=>rfl|some i=>exact absurd (List.mem_of_getElem? (gK k)) d
   grind
  grind
section


variable{Γ:Ctx}{cal:Nat->List AV->Heap->Option (List AV×Heap)}
theorem iU{H E:Heap}{a n:Nat}{r:Nat×List PV}(h:rowOf H a n=some r):rowOf (H++E) a n=some r:=by unfold rowOf at*;grind
theorem vQ{H E:Heap}{a:Nat}{cs:List AV}(h:dj H a=some cs):dj (H++E) a=some cs:=by unfold dj at*;grind
theorem Lj{H E:Heap}{b:Nat}{a:List (PV×AV)}(h:mapOf H b=some a):mapOf (H++E) b=some a:=by unfold mapOf at*;grind
theorem uh{i d:Type}{f g:i->Option d}(c:∀a b,f a=some b->g a=some b):∀{l:List i}{r:List d},mapO f l=some r->mapO g l=some r
 |[],_,h=>h|a::l,r,h=>by simp[mapO]at h⊢;cases e:f a with|none=>grind|some b=>rw[e]at h;cases k:mapO f l with|none=>grind|some m=>rw[c a b e,uh c k];grind
theorem DQ{H E:Heap}:∀(d:Nat)(v:AV)(p:PV),aI H d v=some p->aI (H++E) d v=some p
 |0,v,p,h=>by cases v<;>first|exact h|cases h
 |d+1,v,p,h=>by have j:=DQ (H:=H) (E:=E) d;cases v with
  |p v=>exact h|own c n=>rw[show aI H (d+1) (.own c n)=(rowOf H c n).map λr=>.sl .any r.1 r.2 from rfl,Option.map_eq_some_iff]at h;let⟨r,b,e⟩:=h;rw[show aI (H++E) (d+1) (.own c n)=(rowOf (H++E) c n).map λr=>.sl .any r.1 r.2 from rfl,iU b,Option.map_some,e]|bx c a=>
   rw[show aI H (d+1) (.bx c a)=(dj H c).bind λcs=>if a<cs.length then(mapO (aI H d) (cs.drop a)).map .ptr else none from rfl,Option.bind_eq_some_iff]at h;let⟨cs,b,e⟩:=h;rw[show aI (H++E) (d+1) (.bx c a)=(dj (H++E) c).bind λcs=>if a<cs.length then(mapO (aI (H++E) d) (cs.drop a)).map .ptr else none from rfl,vQ b,Option.bind_some];split at e;·rename_i m;rw[if_pos m];let⟨xs,l,o⟩:=Option.map_eq_some_iff.1 e;rw[uh j l,Option.map_some,o]
   grind|el c n i a=>
   simp[aI]at h⊢;split at h;·rename_i g;rw[if_pos g];let⟨r,b,e⟩:=Option.bind_eq_some_iff.1 h;rw[iU b];grind
   ·rename_i g;rw[if_neg g];let⟨r,b,e⟩:=Option.bind_eq_some_iff.1 h;rw[iU b];grind|mp c=>simp[aI]at h|agg cs=>rw[show aI H (d+1) (.agg cs)=(mapO (aI H d) cs).map .agg from rfl,Option.map_eq_some_iff]at h;let⟨xs,b,e⟩:=h;rw[show aI (H++E) (d+1) (.agg cs)=(mapO (aI (H++E) d) cs).map .agg from rfl,uh j b,Option.map_some,e]|clo f cs=>rw[show aI H (d+1) (.clo f cs)=(mapO (aI H d) cs).map (.clo f)from rfl,Option.map_eq_some_iff]at h;let⟨xs,b,e⟩:=h;rw[show aI (H++E) (d+1) (.clo f cs)=(mapO (aI (H++E) d) cs).map (.clo f)from rfl,uh j b,Option.map_some,e]|tup cs=>cases h|nov=>cases h|any=>cases h
theorem Ut{H E:Heap}{a n i:Nat}(h:elOk H a n i=true):elOk (H++E) a n i=true:=by unfold elOk at*;cases b:rowOf H a n with|none=>grind|some r=>rw[iU b];grind
theorem evQ_up{σ:Nat->AV}{H E:Heap}{q:QOp}{v:AV}(h:evQ Γ cal σ H q=some v):evQ Γ cal σ (H++E) q=some v:=by
 cases q;case nilchk x=>simp[evQ]at h⊢;generalize x.ev Γ σ=y at h⊢;unfold lc at h⊢;split at h;all_goals first|exact h|(simp[ifB_some]at h⊢;exact⟨Ut h.1,h.2⟩)|cases h
 case strOf x=>
  simp[evQ]at h⊢;generalize x.ev Γ σ=y at h⊢;unfold zw at h⊢;split at h;·grind
  ·let⟨r,a,b⟩:=Option.bind_eq_some_iff.1 h;simp only[iU a];grind
  grind
 case len s x=>
  simp only[evQ]at h⊢;generalize x.ev Γ σ=y at h⊢;let⟨n,a,b⟩:=Option.map_eq_some_iff.1 h;have :jm (H++E) s y=some n:=by
   unfold jm at a⊢;split at a;·grind
   ·grind
   ·let⟨r,c,d⟩:=Option.map_eq_some_iff.1 a;subst d;rw[iU c];rfl
   grind
  grind
 case faddr w x=>simp[evQ]at h⊢;generalize x.ev Γ σ=y at h⊢;unfold qg at h⊢;split at h;all_goals first|exact h|(simp[ifB_some]at h⊢;exact⟨Ut h.1,h.2⟩)|cases h
 case iaddr sz x i=>
  simp[evQ]at h⊢;generalize x.ev Γ σ=y at h⊢;generalize i.ev Γ σ=z at h⊢;unfold iaddrA at h⊢;split at h;·grind
  ·let⟨r,a,b⟩:=Option.bind_eq_some_iff.1 h;simp[iU a];grind
  grind
 case load sz ag x=>
  simp[evQ]at h⊢;generalize x.ev Γ σ=y at h⊢;unfold kj at h⊢;split at h;·grind
  ·let⟨r,a,b⟩:=Option.bind_eq_some_iff.1 h;simp[vQ a];grind
  ·let⟨r,a,b⟩:=Option.bind_eq_some_iff.1 h;simp[iU a];grind
  grind
 case wslice sz x lo hi=>
  simp[evQ]at h⊢;generalize x.ev Γ σ=y at h⊢;unfold km at h⊢;split at h;·let⟨r,a,b⟩:=Option.bind_eq_some_iff.1 h;simp[iU a];grind
  grind
 case lenk x k=>
  simp[evQ]at h⊢;generalize x.ev Γ σ=y at h⊢;generalize k.ev Γ σ=z at h⊢;unfold MZ at h⊢;split at h
  ·let⟨cs,a,b⟩:=Option.bind_eq_some_iff.1 h;rw[ifB_some]at b;let⟨b,c⟩:=b;let⟨n,d,g⟩:=Option.map_eq_some_iff.1 c;have :jm (H++E) false y=some n:=by
    unfold jm at d⊢;split at d;·grind
    ·grind
    ·let⟨r,j,A⟩:=Option.map_eq_some_iff.1 d;simp[iU j];grind
    grind
   simp[vQ a,b,this,g,ifB]
  grind
 case loadk sz ag x k=>
  simp[evQ]at h⊢;generalize x.ev Γ σ=y at h⊢;generalize k.ev Γ σ=z at h⊢;unfold zb at h⊢;split at h
  ·split at h;·rename_i e;rw[if_pos e];unfold kj at h⊢;let⟨r,a,b⟩:=Option.bind_eq_some_iff.1 h;simp[vQ a];grind
   grind
  grind
 case mget kd zero o x k=>
  simp[evQ]at h⊢;generalize x.ev Γ σ=y at h⊢;generalize k.ev Γ σ=z at h⊢;unfold Ni at h⊢;split at h;·grind
  ·simp[ifB_some,Option.bind_eq_some_iff]at h⊢;let⟨a,p,b,c⟩:=h;exact⟨a,p,Lj b,c⟩
  grind
 case mlen x=>
  simp[evQ]at h⊢;generalize x.ev Γ σ=y at h⊢;unfold Pf at h⊢;split at h;·grind
  ·let⟨p,a,b⟩:=Option.map_eq_some_iff.1 h;simp[Lj a,Option.map_some,b]
  grind
 case isnil u x k=>
  simp[evQ]at h⊢;generalize x.ev Γ σ=y at h⊢;generalize k.ev Γ σ=z at h⊢;unfold sI at h⊢;split at h;·let⟨r,a,b⟩:=Option.bind_eq_some_iff.1 h;simp[iU a];grind
  grind
 case call f args=>simp[evQ,Option.bind_eq_some_iff]at h⊢;let⟨rs,a,b⟩:=h;refine⟨rs,?_,b⟩;unfold vv at*;simp only[Option.bind_eq_some_iff]at*;let⟨m,c,ps,d,r,g,j⟩:=a;exact⟨m,c,ps,uh (DQ 4) d,r,g,j⟩
 case callr f args=>simp only[evQ,uA,Option.map_eq_some_iff,Option.bind_eq_some_iff]at h⊢;let⟨rs,⟨m,c,ps,d,r,g,j⟩,b⟩:=h;exact⟨rs,⟨m,c,ps,uh (DQ 4) d,r,g,j⟩,b⟩
 all_goals exact h
end
section


variable{Γ:Ctx}{N:Names}{P:Program}{w w':World}{S S':Nat->Prop}{μ μ':Nat->Value}{H HL B B':Heap}{L L2:List Nat}{σ:Nat->AV}{a:Act}{cal:Nat->List AV->Heap->Option (List AV×Heap)}
theorem Rel.cold(i:Rel N.fn w S μ H){a:Nat}{b:Blk}(d:H[a]?=some b)(c:¬cW b){g:Nat}(e:aO (μ a)=some g):S g:=by have h:=i.blk a _ d;cases b with|box cs=>exact absurd (.inl ⟨cs,rfl⟩) c|dead=>exact h g e|row f sz xs=>cases f with|false=>exact absurd (.inr ⟨sz,xs,rfl⟩) c|true=>let⟨_,_,us,_,_,_,j⟩:=h;grind
theorem Nn(A:Rel N.fn w S μ H)(hL:L.Nodup)(W:Heap.pick H L=some HL)(M:Run N.fn w S (picked μ L) HL w' S' μ' B)(hmv:L≠[]->Moves (picked μ L) HL μ' B)(hL2:L2.Nodup)(hpre:∃X,L2=List.range L.length++X)(U:Heap.pick B L2=some B'){l:List Blk}(hbs:mapO (Blk.ren (backTo H L)) B'=some l):∃n,Step N.fn w S μ H w' S' n (dz H L l++l.drop L.length)/\Emb (backTo H L) (picked μ' L2) B' n (dz H L l++l.drop L.length):=by
 obtain⟨X,hX⟩:=hpre;have hkL:HL.length=L.length:=(cx W).1;have hB'len:B'.length=L2.length:=(cx U).1;have hbl:l.length=B'.length:=(cx hbs).1;have hk:L.length<=l.length:=by grind
 have I:∀x∈L,x<H.length:=λx hx=>by
  obtain⟨i,hi⟩:=List.getElem?_of_mem hx;obtain⟨_,h⟩:=cx W;have hlt':i<HL.length:=by grind
  obtain⟨a,P,D⟩:=h i _ (List.getElem?_eq_getElem hlt');grind
 have u:=sx A hL W;have d:Run N.fn w S (picked μ L) HL w' S' (picked μ' L2) B':=M.trans (sx M.rel hL2 U);have q:∀i,i<L.length->L2[i]?=some i:=λi hi=>by grind
 let n:Nat->Value:=λa=>match place L a with|some i=>picked μ' L2 i|none=>if a<H.length then μ a else picked μ' L2 (L.length+(a-H.length));have hFlen:(dz H L l++l.drop L.length).length=H.length+(l.length-L.length):=by simp[ii]
 have T:∀a i,place L a=some i->(dz H L l++l.drop L.length)[a]?=l[i]?/\n a=picked μ' L2 i:=λa i h=>by have k:=I a (List.mem_of_getElem? (gK h));refine⟨?_,by grind⟩;rw[List.getElem?_append_left (by grind),qI hL I hk,h]
 have hF2:∀a,a<H.length->place L a=none->(dz H L l++l.drop L.length)[a]?=H[a]?/\n a=μ a:=λa k h=>by refine⟨?_,by grind⟩;rw[List.getElem?_append_left (by grind),qI hL I hk,h]
 have hnone:∀a,H.length<=a->place L a=none:=λa k=>by cases h:place L a with|none=>rfl|some i=>have :=I a (List.mem_of_getElem? (gK h));omega
 have hF3:∀a,H.length<=a->(dz H L l++l.drop L.length)[a]?=l[L.length+(a-H.length)]?/\n a=picked μ' L2 (L.length+(a-H.length)):=λa k=>by
  refine⟨?_,?_⟩;·rw[List.getElem?_append_right (by grind),ii,List.getElem?_drop]
  grind
 have t:∀(i:Nat)b,l[i]?=some b->∃b0,B'[i]?=some b0/\Blk.ren (backTo H L) b0=some b:=(cx hbs).2;have hE:Emb (backTo H L) (picked μ' L2) B' n (dz H L l++l.drop L.length):=by
  intro i j hi Y;unfold backTo at Y;split at Y
  ·rename_i G;have e:=Kh hL Y;obtain⟨J,C⟩:=T j i e;refine⟨?_,C,λb' o=>?_⟩;·grind
   grind
  ·rename_i G;simp only[Option.some.injEq]at Y;subst Y;obtain⟨J,C⟩:=hF3 (H.length+(i-L.length)) (by omega);have ei:L.length+(H.length+(i-L.length)-H.length)=i:=by omega
   rw[ei]at J C;refine⟨by grind,C,λb' o=>?_⟩;grind
 have s:∀(a:Nat)b,(dz H L l++l.drop L.length)[a]?=some b->(∃i b0,B'[i]?=some b0/\Blk.ren (backTo H L) b0=some b/\n a=picked μ' L2 i/\backTo H L i=some a)\/(a<H.length/\place L a=none/\H[a]?=some b/\n a=μ a):=λa b o=>by
  rcases Nat.lt_or_ge a H.length with k|k;·cases e:place L a with|some i=>obtain⟨J,C⟩:=T a i e;rw[J]at o;obtain⟨b0,k1,k2⟩:=t i b o;have hi:=gK e;refine .inl ⟨i,b0,k1,k2,C,?_⟩;unfold backTo;grind|none=>grind
  ·obtain⟨J,C⟩:=hF3 a k;rw[J]at o;obtain⟨b0,k1,k2⟩:=t _ b o;refine .inl ⟨_,b0,k1,k2,C,?_⟩;unfold backTo;simp[*]
 have y:∀{a b g},H[a]?=some b->place L a=none->aO (μ a)=some g->¬alive (picked μ L) HL g:=λ{a b g}o e O z=>by
  by_cases hal:cW b;·obtain⟨i,F,k1,k2,r⟩:=alive_iff.1 z;obtain⟨id',c,Z,R,k6,k7⟩:=jZ (μ:=μ) W k1 k2;have :=A.inj' o R hal k6 O (by grind);subst this;exact PB e (List.mem_of_getElem? Z)
  ·exact u.rel.apart g z (A.cold o hal O)
 have hLH:∀g,alive (picked μ L) HL g->alive μ H g:=λg h=>by obtain⟨i,b',P,D,h3⟩:=alive_iff.1 h;obtain⟨a,b,_,h5,h6,h7⟩:=jZ (μ:=μ) W P D;exact alive_iff.2 ⟨a,b,h5,h6,by grind⟩
 have hm:Moves μ H n (dz H L l++l.drop L.length):=by
  have key:∀a i b,a<H.length->place L a=some i->(dz H L l++l.drop L.length)[a]?=some b->∃F,B[i]?=some F/\Moves (picked μ L) HL μ' B/\n a=μ' i/\picked μ L i=μ a/\i<HL.length/\(∃b2,Blk.ren (place L2) F=some b2/\Blk.ren (backTo H L) b2=some b):=λa i b k e o=>by obtain⟨J,C⟩:=T a i e;have hi:=gK e;have G:=(List.getElem?_eq_some_iff.1 hi).1;rw[J]at o;obtain⟨b0,k1,k2⟩:=t i b o;obtain⟨i2,F,r,Z,R⟩:=lW U k1;rw[q i G]at r;cases r;refine⟨F,Z,hmv (by grind),?_,by simp[picked,hi],by grind,b0,R,k2⟩;rw[C];simp[picked,q i G]
  have Q:∀i a b0,L[i]?=some a->HL[i]?=some b0->∃b,H[a]?=some b/\Blk.ren (place L) b=some b0:=λi a b0 hi o=>by obtain⟨id',b,k1,k2,r⟩:=lW W o;rw[hi]at k1;cases k1;exact⟨b,k2,r⟩
  refine⟨by grind,λa f sz xs k h=>?_,λa cs k h=>?_⟩;·cases e:place L a with|some i=>obtain⟨F,k1,k2,r,Z,R,b2,k6,k7⟩:=key a i _ k e h;have :=Blk.ren_row_inv k7;subst this;have :=Blk.ren_row_inv k6;subst this;obtain⟨f0,xs0,m1,m2,m3⟩:=k2.row i f sz xs R k1;obtain⟨b3,m4,m5⟩:=Q i a _ (gK e) m1;have :=Blk.ren_row_inv m5;grind|none=>grind
  ·cases e:place L a with|some i=>obtain⟨F,k1,k2,r,Z,R,b2,k6,k7⟩:=key a i _ k e h;obtain⟨c1,rfl,_⟩:=Blk.ren_box_inv k7;obtain⟨c2,rfl,_⟩:=Blk.ren_box_inv k6;obtain⟨cs0,m1,m2⟩:=k2.box i c2 R k1;obtain⟨b3,m4,m5⟩:=Q i a _ (gK e) m1;obtain⟨c3,rfl,_⟩:=Blk.ren_box_inv m5;grind|none=>grind
 have V:∀g,S g->w'.heap[g]?=w.heap[g]?:=λg O=>d.ext.keep g (A.lt g O) λz=>u.rel.apart g z O;refine⟨n,⟨⟨d.rel.lt,λa b o=>?_,λg z hs=>?_,λi j g hi Y ai aj=>?_⟩,⟨d.ext.os,d.ext.tape,d.ext.output,d.ext.size,λg h hna=>?_,d.ext.more,λg h hl=>?_,λg z hl=>?_⟩,hm⟩,hE⟩
 ·rcases s a b o with⟨i,b0,k1,k2,r,_⟩|⟨k,e,k1,k2⟩;·exact Te hE (d.rel.blk i b0 k1) k2 r
  ·exact(A.blk a b k1).keep d.ext.more V hm k2 λg O=>d.ext.keep g (A.blk_lt k1 O) (y k1 e O)
 ·obtain⟨a,b,P,D,h3⟩:=alive_iff.1 z;rcases s a b P with⟨i,b0,k1,k2,r,_⟩|⟨k,e,k1,k2⟩;·exact d.rel.apart g (alive_iff.2 ⟨i,b0,k1,kV k2 D,by grind⟩) hs
  ·rw[k2]at h3;rcases d.ext.new g hs (A.blk_lt k1 h3)with h|h;·exact A.apart g (alive_iff.2 ⟨a,b,k1,D,h3⟩) h
   grind
 ·obtain⟨F,P,a1⟩:=uf ai;obtain⟨b2,D,a2⟩:=uf aj;have v:∀{i1:Nat}{b0:Blk}{a:Nat}{b:Blk},B'[i1]?=some b0->cW b0->aO (picked μ' L2 i1)=some g->H[a]?=some b->place L a=none->aO (μ a)=some g->False:=λ{i1 b0 a b}q1 q2 q3 q4 q5 q6=>y q4 q5 q6 (d.ext.own g (alive_iff.2 ⟨_,b0,q1,q2,q3⟩) (A.blk_lt q4 q6));rcases s i F P with⟨i1,c1,k1,k2,r,Z⟩|⟨hid1,hpl1,k1,k2⟩<;>rcases s j b2 D with⟨i2,c2,l1,l2,l3,l4⟩|⟨hid2,hpl2,l1,l2⟩;·have :=d.rel.inj' k1 l1 (kV k2 a1) (kV l2 a2) (by rw[<-r];omega) (by grind);grind
  ·exact(v k1 (kV k2 a1) (by grind) l1 hpl2 (by grind)).elim
  ·exact(v l1 (kV l2 a2) (by grind) k1 hpl1 (by grind)).elim
  ·exact A.inj' k1 l1 a1 a2 (by rw[<-k2];omega) (by grind)
 ·exact d.ext.keep g h λz=>hna (hLH g z)
 ·rcases d.ext.new g h hl with h|h;all_goals grind
 ·obtain⟨a,b,P,D,h3⟩:=alive_iff.1 z;rcases s a b P with⟨i,b0,k1,k2,r,_⟩|⟨k,e,k1,k2⟩;·exact hLH g (d.ext.own g (alive_iff.2 ⟨i,b0,k1,kV k2 D,by grind⟩) hl)
  ·exact alive_iff.2 ⟨a,b,k1,D,by grind⟩
theorem zi(g:iL Γ N P cal){o:Oper}{f:Arg}{args:List Arg}{v:AV}{K:Heap}(m:chkX P N o (.calls f args)=true)(z:Env.Rel Γ N w S μ H σ a)(O:Rel N.fn w S μ H)(I:evX Γ cal σ H (.calls f args)=some (v,K)):JD N P w S μ H o a v K:=by
 simp[chkX]at m;split at m;rotate_left;·grind
 rename_i f' Y Ts R;simp[]at m;have hf:=z.arg m.1;have U:=z.args m.2;simp only[evX,AO,Option.map_eq_some_iff,Option.bind_eq_some_iff,ifB_some]at I;obtain⟨rr,⟨F,s,x,q,t,HL,p,r,B,r',n,J⟩,rfl,rfl⟩:=I;let⟨M,y,d⟩:=kD hf s;have k:=U.append d;have Q:=jk (H:=H) 64 ((args.map (Arg.ev Γ σ)++F.2).flatMap AV.refs) [] (by simp);generalize fP H 64 ((args.map (Arg.ev Γ σ)++F.2).flatMap AV.refs) []=L at*;have b:=sx O Q p;have c:=xI (sG p) k t;refine⟨_,_,kY R y,(g F.1 q HL r.1 r.2 B w S (picked μ L) _ b.rel z.glrel c).mono ?_⟩;rintro e w'⟨vs,Z,T,rfl,i,u,C⟩;simp[tidy,Option.bind_eq_some_iff,]at n;obtain⟨rs,A,B',l,rfl⟩:=n;simp[vS,Option.bind_eq_some_iff,]at J;obtain⟨rs2,j,bs,D,rfl⟩:=J;have G:=jk (H:=r.2) 64 (r.1.flatMap AV.refs++(r.2.take L.length).flatMap Blk.refs) (List.range L.length) List.nodup_range;let⟨X,hX⟩:=lC (H:=r.2) 64 (r.1.flatMap AV.refs++(r.2.take L.length).flatMap Blk.refs) (List.range L.length);let⟨E,W,g2⟩:=Nn O Q p i (λV=>u (by
  rcases Bool.or_eq_true_iff.1 x with h|h;·grind
  ·rw[(cx p).1];grind)) G ⟨X,hX⟩ l D;exact⟨Z,E,W,ic (xI g2 (xI (sG l) C A) j)⟩
theorem qS(d:iL Γ N P cal){o:Oper}{f:Arg}{args:List Arg}{v:AV}{t:Heap}(g:chkX P N o (.callw f args)=true)(p:Env.Rel Γ N w S μ H σ a)(B:Rel N.fn w S μ H)(r:evX Γ cal σ H (.callw f args)=some (v,t)):JD N P w S μ H o a v t:=by
 simp[chkX]at g;split at g;rotate_left;·grind
 rename_i E x F u;simp[]at g;have C:=p.arg g.1;have z:=p.args g.2;simp only[evX,wP,Option.map_eq_some_iff,Option.bind_eq_some_iff,ifB_some]at r;obtain⟨q,⟨A,j,i,h⟩,rfl,rfl⟩:=r;let⟨s,m,c⟩:=kD C j;refine⟨_,_,kY u m,(d A.1 _ H q.1 q.2 h w S μ _ B p.glrel (z.append c)).mono ?_⟩;rintro e D⟨I,y,k,rfl,b,l,n⟩;exact⟨y,k,⟨b.rel,b.ext,l (Kn i)⟩,ic n⟩
theorem Iv(i:iL Γ N P cal){o:Oper}{f:Arg}{args:List Arg}{v:AV}{A:Heap}(j:chkX P N o (.callz f args)=true)(k:Env.Rel Γ N w S μ H σ a)(I:Rel N.fn w S μ H)(y:evX Γ cal σ H (.callz f args)=some (v,A)):JD N P w S μ H o a v A:=by
 simp[chkX]at j;split at j;rotate_left;·grind
 rename_i J D O B;simp[]at j;have C:=k.arg j.1;have F:=k.args j.2;simp only[evX,Ui,Option.map_eq_some_iff,Option.bind_eq_some_iff,]at y;obtain⟨L,⟨M,t,q,E,r,l,rs,n,rfl⟩,rfl,rfl⟩:=y;let⟨x,m,b⟩:=kD C t;let⟨K,d,c⟩:=kU I (ps:=q.1) (H':=q.2) E (F.append b);have G:=ms i d.rel.lt (k.glrel.more d.ext.more) c l n;refine⟨_,_,kY B m,G.mono ?_⟩;rintro e R⟨T,rfl,z,s⟩;refine⟨_,μ,d.trans (.grow d.rel z (λg h=>.inl h) (λg h=>?_) (λg h=>?_)),ic (All2.map_right (s.imp λu p h=>.p _ _ h))⟩
 ·rcases h with h|h;·exact Nat.lt_of_lt_of_le (d.rel.lt g h) z.size
  grind
 grind
theorem sj{o:Oper}{sz n:Nat}{ag:Bool}{zero:List PV}{parts:List Parts}{v:AV}{V:Heap}(b:chkX P N o (.bslicef sz ag n zero parts)=true)(he:Env.Rel Γ N w S μ H σ a)(hr:Rel N.fn w S μ H)(Y:evX Γ cal σ H (.bslicef sz ag n zero parts)=some (v,V)):XDone N P w S μ H o a v V:=by
 simp[chkX]at b;split at b;rotate_left;·grind
 rename_i T l ps F;simp[]at b;obtain⟨⟨⟨⟨⟨L,rfl⟩,s⟩,hag⟩,hn⟩,h3⟩:=b;split at L;rotate_left;·grind
 rename_i e hT;simp[]at L;let⟨hs,G⟩:=L;have u:ag=false->sz=1:=λe=>by grind
 have m:=he.parts h3;simp only[evX,pX,Option.bind_eq_some_iff,ifB_some,beq_iff_eq]at Y;obtain⟨cs,hf,q,f,A,rfl,rfl⟩:=Y;unfold uC at G;split at G;rotate_left;·grind
 rename_i z I;let⟨i,hi,R⟩:=Option.bind_eq_some_iff.1 I;have t:=lN (N:=N) (w:=w) (S:=S) (μ:=μ) (H:=H) G;rw[Array.toArray_toList]at t;let⟨us,E,M⟩:=mi (λk=>some (k*sz,sz)) (ps.toList.map λx=>(x.1,a.eval x.2)) _ _ cs _ t (m.imp λx y hxy=>by grind) hf;let⟨W,d,D⟩:=kU hr (ps:=q.1) (H':=q.2) f (us:=us.toList) (.of_get (by simpa using M.size) λj x y U F=>by have :=M.rel j y F;simp_all);have B:=D.get;have C:∀c∈q.1,c.one=true:=λc b=>by unfold gg at f;let⟨vs',k1,f⟩:=Option.bind_eq_some_iff.1 f;let⟨HL,k2,f⟩:=Option.bind_eq_some_iff.1 f;let⟨ps',k3,f⟩:=Option.map_eq_some_iff.1 f;rw[<-f]at b;let⟨j,hj⟩:=List.getElem?_of_mem b;let⟨x,U,J⟩:=(cx k3).2 j c hj;let⟨y,O,Q⟩:=(cx k1).2 j x U;exact mw J (HY Q (M.one y (List.mem_of_getElem? O)))
 have r:∀(j:Nat)c,q.1[j]?=some c->RelP N.fn w W c (us.getD j undef):=λj c b=>by
  have X:j<us.toList.length:=by grind
  have :=B.2 j _ c (List.getElem?_eq_getElem X) b;rw[jx,List.getD_eq_getElem?_getD,List.getElem?_eq_getElem X];grind
 have Z:us.size=q.1.length:=by grind
 refine⟨.slice (some ⟨w.heap.size,0,none⟩) l l,w.alloc (.cells us e),λg=>W g\/g=w.heap.size,μ,.inl ?_,d.trans (.grow d.rel (Grows.alloc w _) (λg h=>.inl h) (λg h=>?_) (λg h=>?_)),.p _ _ (RelP.ofBlock u A (by simp) (Nat.le_refl _) ?_ (λ_=>rfl) (.inr rfl) (Go.heap_alloc_new w _) (by omega) C (λj c b=>(r j c b).keep (λ_ h=>.inl h) (λg hg=>Go.RowKit.Below.heap_alloc w _ g (d.rel.lt g hg))))⟩
 ·have e1:(ps.toList.map λx=>(x.1,a.eval x.2)).toArray=ps.map λx=>(x.1,a.eval x.2):=by grind
  have K:¬(l*sz>2^24):=by omega
  have h4:(Go.Instr.buildSlice T l (ps.toList.map λx=>(x.1,a.eval x.2)).toArray).run P w=.ok (.slice (some ⟨w.heap.size,0,none⟩) l l) (w.alloc (.cells us e)):=by
   simp only[Go.Instr.buildSlice,Go.Sem.run_bind,Go.run_underlying (cZ hT),Go.Result.andThen_ok,run_sizeOf (cr hs),if_neg K];by_cases s:l*sz=0
   ·rw[if_pos s]at E;simp only[s,if_true];rw[Go.Sem.run_bind];simp only[Go.Sem.run_pure,Go.Result.andThen_ok];have e0:(Array.range 0).map (λx=>(#[]:Array Value)[x%(#[]:Array Value).size]!)=#[]:=by simp
    rw[e0,E];rfl
   ·rw[if_neg s]at E;simp[s,Go.zeroValue,Go.typeInfo,hi,Go.Sem.run_pure,Go.Result.andThen_ok,R,Go.run_program];rw[E];rfl
  rw[e1]at h4;simp[execOp,F];simp[*]
 ·rcases h with h|h;·exact Nat.lt_of_lt_of_le (d.rel.lt g h) (Grows.alloc w _).size
  simp[*]
 ·grind
 ·have :l*1<=l*sz:=Nat.mul_le_mul_left _ s;simp[maxLen];omega
theorem HQ{o:Oper}{q:QOp}{v:AV}{f:Heap}(e:chkX P N o (.treeq q)=true)(m:Env.Rel Γ N w S μ H σ a)(x:Rel N.fn w S μ H)(g:evX Γ cal σ H (.treeq q)=some (v,f)):XDone N P w S μ H o a v f:=by simp[chkX,]at e;simp[evX,Option.bind_eq_some_iff]at g;let⟨y,t,h⟩:=g;let⟨u,k,B,n,i,s⟩:=Hv e.1 e.2 m x t;simp only[tD,Option.bind_eq_some_iff,Option.map_eq_some_iff,]at h;obtain⟨r,j,p,d,rfl,rfl⟩:=h;let⟨l,c,b⟩:=kU i.rel (ps:=r.1) (H':=r.2) j (us:=[u]) ⟨s,trivial⟩;match r,d,b,c with
 |(A::ps,z),d,b,c=>simp[]at d;subst d;exact⟨u,k,l,μ,.inl n,i.trans c,.p _ _ b.1⟩
theorem Pk{o:Oper}{x:Arg}{v:AV}{F:Heap}(b:chkX P N o (.fbox x)=true)(L:Env.Rel Γ N w S μ H σ a)(I:Rel N.fn w S μ H)(E:evX Γ cal σ H (.fbox x)=some (v,F)):XDone N P w S μ H o a v F:=by
 simp[chkX]at b;split at b;rotate_left;·grind
 rename_i T i s;have k:=L.arg b;simp only[evX,fboxA,Option.bind_eq_some_iff,ifB_some,Bool.and_eq_true,Bool.not_eq_true',List.isEmpty_eq_false_iff]at E;obtain⟨q,d,⟨r,A⟩,rfl,rfl⟩:=E;generalize U:Arg.ev Γ σ x=X at k d r;let⟨W,K,Q⟩:=k.cells r;let⟨B,e,l⟩:=kU I (ps:=q.1) (H':=q.2) d (us:=(a.eval i).cells.toList) (.of_get (by grind) λj x y k s=>by have :=Q j y s;simp_all);have n:=l.get;have m:∀c∈q.1,c.one=true:=λc b=>by unfold gg at d;let⟨M,k1,d⟩:=Option.bind_eq_some_iff.1 d;let⟨HL,k2,d⟩:=Option.bind_eq_some_iff.1 d;let⟨G,O,d⟩:=Option.map_eq_some_iff.1 d;rw[<-d]at b;let⟨j,D⟩:=List.getElem?_of_mem b;let⟨x,k,u⟩:=(cx O).2 j c D;let⟨y,t,z⟩:=(cx k1).2 j x k;exact mw u (HY z (K y (List.mem_of_getElem? t)))
 have f:∀(j:Nat)c,q.1[j]?=some c->RelP N.fn w B c ((a.eval i).cells.getD j undef):=λj c b=>by
  have C:j<(a.eval i).cells.toList.length:=by grind
  have :=n.2 j _ c (List.getElem?_eq_getElem C) b;rw[jx,List.getD_eq_getElem?_getD,List.getElem?_eq_getElem C];grind
 refine⟨.pointer (some ⟨w.heap.size,0,none⟩),w.alloc (.cells (a.eval i).cells T),λg=>B g\/g=w.heap.size,μ,.inl (by simp[execOp,s];rfl),e.trans (.grow e.rel (Grows.alloc w _) (λg h=>.inl h) (λg h=>?_) (λg h=>?_)),.p _ _ (.ptr _ _ (λj=>(a.eval i).cells.getD j undef) A (.inr rfl) m (λj c b=>?_) (λj c b=>(f j c b).keep (λ_ h=>.inl h) (λg J=>Go.RowKit.Below.heap_alloc w _ g (e.rel.lt g J))))⟩
 ·rcases h with h|h;·exact Nat.lt_of_lt_of_le (e.rel.lt g h) (Grows.alloc w _).size
  simp[*]
 ·grind
 ·have D:j<(a.eval i).cells.size:=by grind
  have R:(⟨w.heap.size,0,none⟩:Addr).add j=⟨w.heap.size,j,none⟩:=by unfold Addr.add;grind
  simp_all
end
end Ab
