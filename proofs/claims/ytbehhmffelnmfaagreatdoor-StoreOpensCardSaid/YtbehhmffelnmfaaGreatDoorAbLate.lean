import Derived.Test.YtbehhmffelnmfaaGreatDoorAbK2
import Derived.Orders
set_option linter.all false
namespace Ab
open Go (Act Exit Obj Oper Program TypeId Value World execOp undef)
def Arg.tmps:Arg->List Nat|.v t=>[t]|_=>[]
def QOp.args:QOp->List Arg|.bad=>[]|.mlen x|.mov x|.nilchk x|.un _ x|.conv _ x|.same x|.strOf x|.runeStr x|.len _ x|.fld _ _ _ x|.faddr _ x|.load _ _ x|.ext x _=>[x]|.pick c a b=>[c,a,b]|.lenk x y|.loadk _ _ x y|.mget _ _ _ x y|.isnil _ x y|.appq _ x y|.bin _ x y|.eqs _ _ x y|.eqk _ _ x y|.idx x y|.aidx _ _ _ x y|.iaddr _ x y|.iaddrA _ _ x y=>[x,y]|.sliceS x lo hi|.slice _ x lo hi|.wslice _ x lo hi=>x::(lo.toList++hi.toList)|.build _ ps|.bslice _ _ _ _ ps=>ps.map (·.arg)|.minmax _ xs|.clos _ xs=>xs|.call f xs|.callr f xs=>f::xs|.mkt _ _ _ n c=>[n,c]
def XOp.args:XOp->List Arg|.alloc _|.newrow _|.mkmap=>[]|.box x|.fbox x|.bytesOf x|.range x|.next x=>[x]|.mset _ x k v=>[x,k,v]|.msets _ x k v=>[x,k,v]|.mdel _ x k=>[x,k]|.store _ x v|.append _ x v|.appt _ x v|.appendS x v|.copy _ x v=>[x,v]|.mkslice _ _ _ n c=>[n,c]|.slicef _ x lo hi=>x::(lo.toList++hi.toList)|.popf _ x hi=>[x,hi]|.storek _ x v ks|.appk _ x v ks=>x::v::ks|.callk f xs ks|.callwk f xs ks=>f::(xs++ks)|.callf f xs|.calls f xs|.callz f xs|.callw f xs|.callwr f xs=>f::xs|.bslicef _ _ _ _ ps|.brow _ _ _ _ ps=>ps.map (·.arg)|.bslk _ _ _ _ ps ks=>ks++ps.map (·.arg)|.pureq q|.treeq q=>q.args
def sD:QOp⊕XOp->List Arg|.inl q=>q.args|.inr x=>x.args
def St.reads(s:St):List Nat:=(match s.g with|some (t,_)=>[t]|none=>[])++(sD s.op).flatMap Arg.tmps
def gx(Γ:Ctx)(cal:Nat->List AV->Heap->Option (List AV×Heap))(s:St)(σ:Nat->AV)(H:Heap):Option (AV×Heap):=match wanted σ s.g with|none=>none|some false=>some (.nov,H)|some true=>match s.op with|.inl q=>(evQ Γ cal σ H q).map λv=>(v,H)|.inr x=>evX Γ cal σ H x
section


variable{Γ:Ctx}{cal:Nat->List AV->Heap->Option (List AV×Heap)}
theorem Bu{s:St}{r:List St}{a:Env}{H:Heap}:iA Γ cal (s::r) a H=(gx Γ cal s (look a) H).bind λx=>iA Γ cal r (put a s.dst x.1) x.2:=by simp[iA,gx];grind
theorem Arg.ev_congr{σ a:Nat->AV}{x:Arg}(h:∀t∈x.tmps,σ t=a t):x.ev Γ σ=x.ev Γ a:=by
 cases x<;>try rfl
 exact h _ (by simp[Arg.tmps])
theorem bW{a b:Type}{f g:a->b}{l:List a}(h:∀x∈l,f x=g x):l.map f=l.map g:=List.map_congr_left h
theorem wG{σ a:Nat->AV}{H:Heap}{q:QOp}(h:∀x∈q.args,x.ev Γ σ=x.ev Γ a):evQ Γ cal σ H q=evQ Γ cal a H q:=by
 have c:∀o:Option Arg,(∀x∈o.toList,x.ev Γ σ=x.ev Γ a)->o.map (Arg.ev Γ σ)=o.map (Arg.ev Γ a):=λo d=>by cases o with|none=>rfl|some x=>grind
 cases q<;>simp[QOp.args,]at h<;>simp only[evQ];case sliceS x lo hi=>grind
 case slice x lo hi=>grind
 case wslice x lo hi=>grind
 case build zero parts=>rw[bW (f:=λq:Parts=>(q.off,q.sz,Arg.ev Γ σ q.arg)) (g:=λq:Parts=>(q.off,q.sz,Arg.ev Γ a q.arg)) λx b=>by grind]
 case bslice sz ag n zero parts=>rw[bW (f:=λq:Parts=>(q.off,q.sz,Arg.ev Γ σ q.arg)) (g:=λq:Parts=>(q.off,q.sz,Arg.ev Γ a q.arg)) λx b=>by grind]
 case minmax mx xs=>rw[bW h]
 case clos f xs=>rw[bW h]
 case call f xs=>rw[h.1,bW h.2]
 case callr f xs=>rw[h.1,bW h.2]
 all_goals grind
theorem UP{σ a:Nat->AV}{H:Heap}{q:XOp}(h:∀x∈q.args,x.ev Γ σ=x.ev Γ a):evX Γ cal σ H q=evX Γ cal a H q:=by
 have i:∀d,q=.pureq d->evX Γ cal σ H q=evX Γ cal a H q:=λd e=>by subst e;simp[evX,wG (q:=d) h]
 have j:∀o:Option Arg,(∀x∈o.toList,x.ev Γ σ=x.ev Γ a)->o.map (Arg.ev Γ σ)=o.map (Arg.ev Γ a):=λo m=>by cases o with|none=>rfl|some x=>grind
 cases q<;>simp[XOp.args,]at h<;>simp[evX];case slicef sz x lo hi=>grind
 case callf f xs=>rw[h.1,bW h.2]
 case calls f xs=>rw[h.1,bW h.2]
 case callz f xs=>rw[h.1,bW h.2]
 case callw f xs=>rw[h.1,bW h.2]
 case callwr f xs=>rw[h.1,bW h.2]
 case callwk f xs c=>rw[h.1,bW λx b=>h.2 x (.inl b),bW λx b=>h.2 x (.inr b)]
 case callk f xs c=>rw[h.1,bW λx b=>h.2 x (.inl b),bW λx b=>h.2 x (.inr b)]
 case storek sz x v c=>rw[h.1,h.2.1,bW h.2.2]
 case appk sz x v c=>rw[h.1,h.2.1,bW h.2.2]
 case bslk sz ag n zero parts c=>rw[bW (f:=Arg.ev Γ σ) (g:=Arg.ev Γ a) (l:=c) λx b=>h x (.inl b),bW (f:=λq:Parts=>(q.off,q.sz,Arg.ev Γ σ q.arg)) (g:=λq:Parts=>(q.off,q.sz,Arg.ev Γ a q.arg)) λx b=>by rw[h x.arg (.inr ⟨x,b,rfl⟩)]]
 case pureq q=>exact i q rfl
 case treeq q=>simp[wG (q:=q) h]
 case brow sz ag n zero parts=>rw[bW (f:=λq:Parts=>(q.off,q.sz,Arg.ev Γ σ q.arg)) (g:=λq:Parts=>(q.off,q.sz,Arg.ev Γ a q.arg)) λx b=>by grind]
 case bslicef sz ag n zero parts=>rw[bW (f:=λq:Parts=>(q.off,q.sz,Arg.ev Γ σ q.arg)) (g:=λq:Parts=>(q.off,q.sz,Arg.ev Γ a q.arg)) λx b=>by grind]
 all_goals grind
theorem Hy{σ a:Nat->AV}{H:Heap}{s:St}(h:∀t∈s.reads,σ t=a t):gx Γ cal s σ H=gx Γ cal s a H:=by
 have e:wanted σ s.g=wanted a s.g:=by cases c:s.g with|none=>rfl|some g=>let⟨t,b⟩:=g;simp[wanted];rw[h t (by simp[St.reads,c])]
 have d:∀x∈sD s.op,x.ev Γ σ=x.ev Γ a:=λx f=>Arg.ev_congr λt j=>h t (by simp[St.reads,];grind);unfold gx;rw[e];cases c:s.op with|inl q=>rw[c]at d;simp[wG d]|inr x=>rw[c]at d;simp[UP d]
end
def Jq(ops:Array Oper):Option (Nat×Bool)->Option (Nat×Bool)->Bool|none,none=>true|some (j,b),some (t,b')=>(match ops[j]? with|some oj=>oj.dst==some t|none=>false)&&b==b'|_,_=>false
def vH(P:Program)(N:Names)(ops:Array Oper)(nt:Nat)(o:Oper)(s:St):Bool:=o.dst==s.dst&&(match s.dst with|some d=>decide (d<nt)|none=>true)&&Jq ops o.guard s.g&&chkOp P N o s.op
section


variable{Γ:Ctx}{N:Names}{P:Program}{w:World}{S:Nat->Prop}{μ:Nat->Value}{H H':Heap}{σ:Nat->AV}{a:Act}{cal:Nat->List AV->Heap->Option (List AV×Heap)}{ops:Array Oper}
theorem IT{xs:Array Value}{t:Nat}{v:Value}(h:xs.getD t undef=v)(b:v≠undef):xs[t]?=some v:=by cases c:xs[t]? with|none=>grind|some x=>simp_all
theorem RelV.nov_inv{u:Value}(h:RelV N.fn w S μ H .nov u):u=undef:=by cases h;rfl
theorem qQ(q:Env.Rel Γ N w S μ H σ a){o:Oper}{g:Option (Nat×Bool)}{b:Bool}(h:Jq ops o.guard g=true)(e:wanted σ g=some b):Go.Region.wanted o (Go.yielded ops a.tmps)=b:=by
 unfold Jq at h;split at h;·rename_i i;simp[wanted,]at e;subst e;simp[Go.Region.wanted,i]
 ·rename_i j c t n i;simp[]at h;obtain⟨k,rfl⟩:=h;split at k
  ·rename_i s m;simp[]at k;have d:=q.env t;simp[wanted]at e;split at e;·rename_i n f;rw[f]at d;have d:=d.bool_inv;simp[]at e;subst e;have d:=IT d (by simp[undef]);simp only[Go.Region.wanted,i,Go.yielded,m,k,d,Option.bind_some];rfl
   ·rename_i f;rw[f]at d;simp[]at e;subst e;have d:=d.nov_inv;simp only[Go.Region.wanted,i,Go.yielded,m,k,Option.bind_some];cases p:a.tmps[t]? with|none=>rfl|some x=>simp[p,Option.getD_some]at d;subst d;rfl
   grind
  grind
 grind
theorem GI(d:iL Γ N P cal){nt:Nat}{i:Nat}{o:Oper}{s:St}{v:AV}(hi:ops[i]?=some o)(G:vH P N ops nt o s=true)(j:Env.Rel Γ N w S μ H σ a)(k:Rel N.fn w S μ H)(e:gx Γ cal s σ H=some (v,H')){K:Act->World->Prop}{Q:Exit->Act->World->Prop}(J:∀u l A g,Step N.fn w S μ H l A g H'->RelV N.fn l A g H' v u->K (a.put s.dst u) l):Go.wpOp P ops Q i K a w:=by
 simp[vH,]at G;let⟨⟨⟨Z,_⟩,W⟩,c⟩:=G;unfold Go.wpOp;simp[hi];rw[<-Z]at J;simp[gx]at e;split at e;·grind
 ·rename_i R;simp[]at e;obtain⟨rfl,rfl⟩:=e;simp[qQ j W R,if_false];exact J undef w S μ (.refl k) .nov
 ·rename_i R;simp[qQ j W R,if_true];refine .inl ?_;have h:JD N P w S μ H o a v H'->o.wp P a w K Q:=by
   rintro⟨f,us,b,⟨t,B⟩|⟨u,l,t,A,g,B,h4⟩⟩;·simp[Go.Oper.wp,b,t,Go.Oper.upon];refine B.mono ?_;grind
   ·simp[Go.Oper.wp,b,t,Go.Oper.upon];grind
  split at e
  ·rename_i q T;rw[T]at c;simp[Option.map_eq_some_iff,Prod.mk.injEq]at e;obtain⟨V,e,rfl,rfl⟩:=e;by_cases F:q.plain=false;·cases q<;>first|exact h (BU d c j k e)|exact h (Ad d c j k e)|cases F
   ·let⟨u,l,A,b,t,B⟩:=Hv (by grind) c j k e;simp[Go.Oper.wp,b,Go.Oper.upon];grind
  ·rename_i x Y;rw[Y]at c;by_cases X:x.known=true
   ·let⟨u,l,A,g,b,t,B⟩:=Ih X c j k e;rcases b with b|⟨b,rfl⟩;·simp[Go.Oper.wp,b,Go.Oper.upon];grind
    ·simp[Go.Oper.wp,b,Go.Oper.upon];grind
   ·cases x<;>simp[XOp.known,not_true_eq_false]at X
    ·let⟨u,l,A,g,b,t,B⟩:=sj c j k e;rcases b with b|⟨b,rfl⟩;·simp[Go.Oper.wp,b,Go.Oper.upon];grind
     ·simp[Go.Oper.wp,b,Go.Oper.upon];grind
    ·let⟨u,l,A,g,b,t,B⟩:=Pk (P:=P) c j k e;rcases b with b|⟨b,rfl⟩;·simp[Go.Oper.wp,b,Go.Oper.upon];grind
     ·simp[Go.Oper.wp,b,Go.Oper.upon];grind
    ·exact h (Iv d c j k e)
    ·rename_i q;simp[evX,Option.map_eq_some_iff,Prod.mk.injEq]at e;obtain⟨V,e,rfl,rfl⟩:=e;have e:evQ Γ cal σ H q=some V:=by simpa using evQ_up (E:=H) e
     by_cases F:q.plain=false;·cases q<;>first|exact h (BU d c j k e)|exact h (Ad d c j k e)|cases F
     ·let⟨u,l,A,b,t,B⟩:=Hv (by grind) c j k e;simp[Go.Oper.wp,b,Go.Oper.upon];grind
    ·exact h (HW d c j k e)
    ·exact h (zi d c j k e)
    ·let⟨u,l,A,g,b,t,B⟩:=HQ (P:=P) c j k e;rcases b with b|⟨b,rfl⟩;·simp[Go.Oper.wp,b,Go.Oper.upon];grind
     ·simp[Go.Oper.wp,b,Go.Oper.upon];grind
    ·rename_i f args M;have m:evX Γ cal σ H (.calls f args)=some (v,H'):=by simp[evX,FC,Option.map_eq_some_iff,Option.bind_eq_some_iff,ifB_some]at e⊢;grind
     exact h (zi d (o:=o) (f:=f) (args:=args) c j k m)
    ·exact h (qS d c j k e)
    ·rename_i f args M;have m:evX Γ cal σ H (.callw f args)=some (v,H'):=by simp[evX,qW,Option.map_eq_some_iff,Option.bind_eq_some_iff,ifB_some]at e⊢;grind
     exact h (qS d (o:=o) (f:=f) (args:=args) c j k m)
    ·rename_i sz x y;have G:=c;simp[evX]at e;let⟨r,e,t⟩:=Option.bind_eq_some_iff.1 e;let⟨u,l,A,g,b,O,g3⟩:=Ih (o:=o) (x:=.append sz x y) (cal:=cal) (v:=r.1) (H':=r.2) rfl G j k (by simp[evX];grind);simp only[tD,Option.bind_eq_some_iff,Option.map_eq_some_iff,Prod.mk.injEq]at t;obtain⟨q,T,p,L,rfl,rfl⟩:=t;let⟨U,C,z⟩:=kU O.rel (ps:=q.1) (H':=q.2) T (us:=[u]) ⟨g3,trivial⟩;match q,L,z,C with
     |(p'::ps,H2),L,z,C=>
      simp[List.head?_cons,Option.some.injEq]at L;subst L;rcases b with b|⟨b,rfl⟩;·simp[Go.Oper.wp,b,Go.Oper.upon];exact J u l U g (O.trans C) (.p _ _ z.1)
      ·simp[Go.Oper.wp,b,Go.Oper.upon];exact J undef l U g (O.trans C) (.p _ _ z.1)
    ·rename_i sz x y M;have G:=c;simp[evX,ifB_some]at e;let⟨u,l,A,g,b,t,B⟩:=Ih (o:=o) (x:=.append sz x y) (cal:=cal) (v:=v) (H':=H') rfl G j k (by simp[evX];grind);rcases b with b|⟨b,rfl⟩;·simp[Go.Oper.wp,b,Go.Oper.upon];grind
     ·simp[Go.Oper.wp,b,Go.Oper.upon];grind
    ·rename_i sz ag n zero parts M;have m:evX Γ cal σ H (.bslicef sz ag n zero parts)=some (v,H'):=by simp[evX,bslkA,Option.bind_eq_some_iff,ifB_some]at e⊢;grind
     let⟨u,l,A,g,b,t,B⟩:=sj (o:=o) c j k m;rcases b with b|⟨b,rfl⟩;·simp[Go.Oper.wp,b,Go.Oper.upon];grind
     ·simp[Go.Oper.wp,b,Go.Oper.upon];grind
    ·rename_i f args;have m:evX Γ cal σ H (.callw f args)=some (v,H'):=by simp[evX,Dh,Option.map_eq_some_iff,Option.bind_eq_some_iff,ifB_some]at e⊢;grind
     exact h (qS d (o:=o) (f:=f) (args:=args) c j k m)
theorem RelV.step{e:World}{d:Nat->Prop}{a:Nat->Value}(f:Rel N.fn w S μ H)(b:Step N.fn w S μ H e d a H'){v:AV}{u:Value}(h:RelV N.fn w S μ H v u):RelV N.fn e d a H' v u:=h.keep b.ext.more (λg c=>b.ext.keep g (f.lt g c) (f.stable c).2) b.moves
theorem GlRel.step{k:World}{j:Nat->Prop}{f:Nat->Value}(d:Rel N.fn w S μ H)(b:Step N.fn w S μ H k j f H')(h:GlRel Γ N w S):GlRel Γ N k j:=⟨λn cs c=>(h.rel n cs c).keep b.ext.more (λg i=>b.ext.keep g (d.lt g i) (d.stable i).2),λn cs c=>by
  let⟨us,e,o,r,p⟩:=h.whole n cs c;have a:S (N.gl n):=by have :=h.rel n cs c;cases this with|ptr _ _ _ _ b=>grind
  exact⟨us,e,o,by rw[b.ext.keep _ (d.lt _ a) (d.stable a).2];grind,p⟩,λn c=>by let⟨a,m,q⟩:=h.ints n c;exact⟨b.ext.more _ a,m,(gM (b.ext.keep _ (d.lt _ a) (d.stable a).2)).trans q⟩⟩
theorem ju{b:Option Nat}{u:Value}{t:Nat}(h:b≠some t):(a.put b u).tmps.getD t undef=a.tmps.getD t undef:=by cases b with|none=>rfl|some d=>have :d≠t:=λe=>h (by rw[e]);simp[Go.Act.put,Array.getElem?_setIfInBounds_ne this]
theorem rz{d:Nat}{u:Value}(h:d<a.tmps.size):(a.put (some d) u).tmps.getD d undef=u:=by simp[Go.Act.put,h]
theorem CC{b:Option Nat}{u:Value}:(a.put b u).tmps.size=a.tmps.size:=by cases b<;>simp[Go.Act.put]
theorem put_defers{c:Option Nat}{u:Value}:(a.put c u).defers=a.defers:=by cases c<;>rfl
theorem sa{b:Env}{a:Option Nat}{v:AV}{t:Nat}:look (put b a v) t=if a=some t then v else look b t:=by cases a with|none=>rfl|some d=>by_cases h:d=t<;>simp[put,look,]
theorem Env.Rel.put{e:Env}{f:World}{g:Nat->Prop}{c:Nat->Value}{v:AV}{u:Value}{b:Option Nat}(i:Ab.Rel N.fn w S μ H)(l:Env.Rel Γ N w S μ H (look e) a)(j:Step N.fn w S μ H f g c H')(n:RelV N.fn f g c H' v u)(m:∀d,b=some d->d<a.tmps.size):Env.Rel Γ N f g c H' (look (Ab.put e b v)) (a.put b u)where
 env t:=by
  rw[sa];split;·rename_i h;subst h;rw[rz (m t rfl)];grind
  ·rename_i h;rw[ju h];exact(l.env t).step i j
 gl:=GlRel.step i j l.gl
theorem Fv(g:iL Γ N P cal){nt:Nat}{Q:Exit->Act->World->Prop}:∀(c:List St)(k:Nat){f b:Env}{w:World}{S:Nat->Prop}{μ:Nat->Value}{H l:Heap}{a:Act},(∀j s,c[j]?=some s->∃o,ops[k+j]?=some o/\vH P N ops nt o s=true)->iA Γ cal c f H=some (b,l)->Rel N.fn w S μ H->Env.Rel Γ N w S μ H (look f) a->nt<=a.tmps.size->(∀h p r e,Step N.fn w S μ H p r e l->Env.Rel Γ N p r e l (look b) h->h.tmps.size=a.tmps.size->h.defers=a.defers->Q .normal h p)->Go.wpOps P ops Q (List.range' k c.length) a w
 |[],k,f,b,w,S,μ,H,l,a,_,n,t,q,J,A=>by simp[iA,]at n;obtain⟨rfl,rfl⟩:=n;exact A a w S μ (.refl t) q rfl rfl|s::c,k,f,b,w,S,μ,H,l,a,E,n,t,q,J,A=>by
  rw[Bu,Option.bind_eq_some_iff]at n;let⟨⟨v,V⟩,M,O⟩:=n;let⟨o,F,m⟩:=E 0 s rfl;simp[];refine GI g F m q t M λu T R L C I=>?_;have y:∀d,s.dst=some d->d<a.tmps.size:=λd y=>by simp[vH,y,]at m;omega
  refine Fv g c (k+1) (λj G W=>?_) O C.rel (q.put t C I y) (by rw[CC];omega) λh p r e B z D x=>?_;·let⟨Y,U,X⟩:=E (j+1) G (by grind);grind
  ·exact A h p r e (C.trans B) z (by rw[D,CC]) (by rw[x,put_defers])
end
inductive Waits(ops:Array Oper):Nat->Nat->Prop|one(j:Nat)(o:Oper)(e:Go.Edge):ops[j]?=some o->e∈o.after->Go.Region.binds .any e=true->Waits ops j e.on|more(j:Nat)(o:Oper)(e:Go.Edge)(i:Nat):ops[j]?=some o->e∈o.after->Go.Region.binds .any e=true->Waits ops e.on i->Waits ops j i
def Qs(acc:List Nat):List Go.Edge->Nat->Nat|[],m=>m|e::es,m=>Qs acc es (match Go.Region.binds .any e with|true=>m|||2^e.on|||acc.getD e.on 0|false=>m)
def masks:List Oper->List Nat->List Nat|[],acc=>acc|o::os,acc=>masks os (acc++[Qs acc o.after.toList 0])
theorem xS{a:Array Oper}{j:Nat}{o:Oper}{acc:List Nat}(f:a[j]?=some o)(b:∀(k m i:Nat),acc[k]?=some m->m.testBit i=true->Waits a k i):∀(c:List Go.Edge)(m:Nat),(∀e∈c,e∈o.after)->(∀i,m.testBit i=true->Waits a j i)->∀i,(Qs acc c m).testBit i=true->Waits a j i
 |[],m,_,l,i,h=>l i h|e::c,m,g,l,i,h=>by refine xS f b c _ (λq s=>g q (by grind)) (λi hi=>?_) i h;cases d:Go.Region.binds .any e with|false=>grind|true=>
   rw[d]at hi;simp[]at hi;rcases hi with(hi|hi)|hi;·grind
   ·rw[Nat.testBit_two_pow]at hi;have :e.on=i:=by grind
    subst this;exact .one j o e f (g e (by simp)) d
   ·cases n:acc[e.on]? with|none=>grind|some x=>simp[n,]at hi;exact .more j o e i f (g e (by simp)) d (b _ _ _ n hi)
theorem Bx{b:Array Oper}:∀(d:List Oper)(acc:List Nat),(∀j,d[j]?=b[acc.length+j]?)->(∀(k m i:Nat),acc[k]?=some m->m.testBit i=true->Waits b k i)->∀(k m i:Nat),(masks d acc)[k]?=some m->m.testBit i=true->Waits b k i
 |[],acc,_,a=>a|o::d,acc,c,a=>by
  have l:b[acc.length]?=some o:=by simpa using(c 0).symm
  refine Bx d _ (λj=>?_) (λk m i f hi=>?_);·have :=c (j+1);grind
  ·by_cases n:k<acc.length;·grind
   ·rw[List.getElem?_append_right (by omega)]at f;have g:k-acc.length=0:=by grind
    rw[g]at f;simp[]at f;have :k=acc.length:=by omega
    subst this;subst f;exact xS l a o.after.toList 0 (λe q=>by grind) (by simp) i hi
def isX:QOp⊕XOp->Bool|.inl _=>false|.inr (.pureq _)=>false|.inr _=>true
def qA:QOp⊕XOp->Bool|.inl (.mov _)|.inl (.pick _ _ _)|.inl (.bin _ _ _)|.inl (.eqs _ _ _ _)|.inl (.eqk _ _ _ _)|.inl (.un _ _)|.inl (.conv _ _)|.inl (.same _)|.inl (.idx _ _)|.inl (.aidx _ _ _ _ _)|.inl (.fld _ _ _ _)|.inl (.sliceS _ _ _)|.inl (.slice _ _ _ _)|.inl (.build _ _)|.inl (.bslice _ _ _ _ _)|.inl (.ext _ _)|.inl (.minmax _ _)|.inl (.clos _ _)|.inl (.appq _ _ _)|.inl (.mkt _ _ _ _ _)|.inr (.pureq _)=>true|_=>false
def ur:QOp⊕XOp->Bool|.inr (.alloc _)|.inr (.newrow _)|.inr (.brow _ _ _ _ _)|.inr .mkmap|.inr (.callwr _ _)=>true|_=>false
def nr:QOp⊕XOp->Bool|.inl (.load _ _ (.v _))|.inl (.len _ (.v _))|.inl (.iaddr _ (.v _) _)|.inl (.nilchk (.v _))|.inl (.faddr _ (.v _))=>true|_=>false
theorem LG{x:QOp⊕XOp}(h:nr x=true):isX x=false:=by unfold nr at h;split at h<;>first|rfl|grind
def me:QOp⊕XOp->List Arg|.inr (.callk _ _ ks)|.inr (.callwk _ _ ks)|.inr (.storek _ _ _ ks)|.inr (.appk _ _ _ ks)|.inr (.bslk _ _ _ _ _ ks)=>ks|_=>[]
def qm:QOp⊕XOp->Option Nat|.inl (.loadk _ _ _ (.v t))=>some t|_=>none
def EZ:QOp⊕XOp->List Arg|.inr (.callwk _ _ ks)=>ks|_=>[]
def lenOf:QOp⊕XOp->Option Nat|.inl (.lenk _ (.v t))=>some t|_=>none
def Lz(t:Nat):Arg->Bool|.v s=>s==t|_=>false
def jG(x q:QOp⊕XOp):Bool:=(match qm q with|some t=>(me x).any (Lz t)|none=>false)||(match lenOf q with|some t=>(EZ x).any (Lz t)|none=>false)
def goesBy(x q:QOp⊕XOp):Bool:=(ur x&&!isX q)||jG x q
theorem zn{t:Nat}{a:Arg}(h:Lz t a=true):a=.v t:=by cases a<;>simp[Lz]at h;rw[h]
theorem tT{x q:QOp⊕XOp}(h:jG x q=true):isX q=false:=by
 unfold jG at h;rw[Bool.or_eq_true]at h;rcases h with h|h
 ·unfold qm at h;split at h
  ·rename_i e;split at e;·rfl
   grind
  grind
 ·unfold lenOf at h;split at h
  ·rename_i e;split at e;·rfl
   grind
  grind
theorem Lm{x q:QOp⊕XOp}(h:goesBy x q=true):isX q=false:=by
 unfold goesBy at h;rw[Bool.or_eq_true]at h;rcases h with h|h;·grind
 ·exact tT h
def keepsOk(dsts:List (Option Nat))(s:St):Bool:=(me s.op).all λa=>match a with|.v t=>!dsts.contains (some t)|_=>true
def St.names(s:St):List Nat:=s.dst.toList++s.reads
def RO(M:List Nat)(dsts:List (Option Nat))(i:Nat)(s:St):Bool:=s.names.all λt=>(List.range dsts.length).all λk=>match dsts[k]? with|some (some d)=>if d=t then(if k<i then(M.getD i 0).testBit k else if i<k then(M.getD k 0).testBit i else true)else true|_=>true
def FO(M:List Nat)(L F:List Bool)(O:List (QOp⊕XOp)):Nat->Bool->List St->Bool|_,_,[]=>true|i,x,s::r=>match x||isX s.op with|true=>(qA s.op||(nr s.op&&(List.range i).all λk=>!isX (O.getD k (.inr .mkmap))||ur (O.getD k (.inr .mkmap))||(M.getD i 0).testBit k)||(List.range i).all (λk=>F.getD k false||(L.getD i false&&isX (O.getD k (.inr .mkmap)))||goesBy s.op (O.getD k (.inr .mkmap))||jG (O.getD k (.inr .mkmap)) s.op||(!isX s.op&&!isX (O.getD k (.inr .mkmap)))||(M.getD i 0).testBit k))&&FO M L F O (i+1) true r|false=>FO M L F O (i+1) false r
def isBoxZ(s:St):Bool:=s.g.isNone&&s.dst.isSome&&match s.op with|.inr (.alloc _)=>true|_=>false
def SW(ops:List Oper)(M:List Nat)(O:List (QOp⊕XOp))(i:Nat)(s:St):Bool:=isBoxZ s&&(match ops[i]? with|some o=>o.after.toList.all (λe=>!Go.Region.binds .any e)|none=>false)&&(List.range ops.length).all λj=>match ops[j]? with|some o=>!(o.after.toList.any λe=>Go.Region.binds .any e&&e.on==i)||(List.range j).all λk=>k==i||!isX (O.getD k (.inr .mkmap))||(M.getD j 0).testBit k|none=>true
def Oz(ops:List Oper)(M:List Nat)(O:List (QOp⊕XOp)):Nat->List St->List Bool|_,[]=>[]|i,s::r=>SW ops M O i s::Oz ops M O (i+1) r
theorem GR{a:List Oper}{M:List Nat}{O:List (QOp⊕XOp)}:∀(l:List St)(i j:Nat),(Oz a M O i l).getD j false=true->∃s,l[j]?=some s/\SW a M O (i+j) s=true
 |[],_,_,h=>by simp[Oz]at h|s::r,i,0,h=>⟨s,rfl,by simpa[Oz]using h⟩|s::r,i,j+1,h=>by obtain⟨c,e,d⟩:=GR r (i+1) j (by simpa[Oz]using h);grind
def backOk:Nat->List Oper->Bool|_,[]=>true|i,o::r=>o.after.toList.all (λe=>match Go.Region.binds .any e with|true=>decide (e.on<i)|false=>true)&&backOk (i+1) r
def vT(M:List Nat)(dsts:List (Option Nat)):Nat->List St->Bool|_,[]=>true|i,s::r=>RO M dsts i s&&vT M dsts (i+1) r
def GG(ops:List Oper)(sts:List St):Bool:=let M:=masks ops [];backOk 0 ops&&FO M (Oz ops M (sts.map (·.op)) 0 sts) (sts.map λs=>qA s.op) (sts.map (·.op)) 0 false sts&&vT M (sts.map (·.dst)) 0 sts&&sts.all (keepsOk (sts.map (·.dst)))
theorem getD_bit{M:List Nat}{i k:Nat}(h:(M.getD i 0).testBit k=true):∃m,M[i]?=some m/\m.testBit k=true:=by grind
theorem xT:∀(l:List Oper)(i:Nat),backOk i l=true->∀(j:Nat)o,l[j]?=some o->∀e∈o.after,Go.Region.binds .any e=true->e.on<i+j
 |o::l,i,h,j,d,a,e,f,b=>by simp only[backOk,Bool.and_eq_true]at h;cases j with
  |zero=>grind|succ j=>have :=xT l (i+1) h.2 j d (by grind) e f b;omega
 |[],_,_,_,_,a,_,_,_=>by grind
theorem qN{M:List Nat}{L F:List Bool}{O:List (QOp⊕XOp)}:∀(l:List St)(i:Nat)(x:Bool),FO M L F O i x l=true->∀(j:Nat)(s:St),l[j]?=some s->qA s.op=false->(x=true\/∃k s,k<=j/\l[k]?=some s/\isX s.op=true)->(nr s.op=true/\∀k<i+j,(isX (O.getD k (.inr .mkmap))=false\/ur (O.getD k (.inr .mkmap))=true)\/(M.getD (i+j) 0).testBit k=true)\/∀k<i+j,(((F.getD k false=true\/(L.getD (i+j) false=true/\isX (O.getD k (.inr .mkmap))=true))\/goesBy s.op (O.getD k (.inr .mkmap))=true)\/jG (O.getD k (.inr .mkmap)) s.op=true\/(isX s.op=false/\isX (O.getD k (.inr .mkmap))=false))\/(M.getD (i+j) 0).testBit k=true
 |s::l,i,x,h,j,c,e,d,f=>by
  simp[FO]at h;split at h;·rename_i b;simp[]at h;cases j with
   |zero=>grind|succ j=>have :=qN l (i+1) true h.2 j c (by grind) d (.inl rfl);grind
  ·rename_i b;simp[]at b;cases j with
   |zero=>grind|succ j=>
    have :=qN l (i+1) false h j c (by grind) d (by grind);grind
 |[],_,_,_,j,_,e,_,_=>by grind
theorem rD{M:List Nat}{a:List (Option Nat)}:∀(l:List St)(i:Nat),vT M a i l=true->∀(j:Nat)s,l[j]?=some s->RO M a (i+j) s=true
 |s::l,i,h,j,c,d=>by simp[vT,]at h;cases j with|zero=>grind|succ j=>have :=rD l (i+1) h.2 j c (by grind);grind
 |[],_,_,_,_,d=>by grind
structure LateAt(ops:Array Oper)(sts:List St)(i:Nat):Prop where
 op:∃d z,sts[i]?=some ⟨some d,none,.inr (.alloc z)⟩free:∀o,ops[i]?=some o->∀e∈o.after,Go.Region.binds .any e=true->False
 all:∀(j:Nat)o e,ops[j]?=some o->e∈o.after->Go.Region.binds .any e=true->e.on=i->∀(k:Nat)s,k<j->k≠i->sts[k]?=some s->isX s.op=true->Waits ops j k
structure Draw(ops:Array Oper)(sts:List St):Prop where
 len:sts.length=ops.size
 back:∀(j:Nat)o,ops[j]?=some o->∀e∈o.after,Go.Region.binds .any e=true->e.on<j
 tail:∀(j:Nat)(s:St),sts[j]?=some s->qA s.op=false->(∃(k:Nat)(s:St),k<=j/\sts[k]?=some s/\isX s.op=true)->(nr s.op=true/\∀(k:Nat)(s':St),k<j->sts[k]?=some s'->isX s'.op=true->ur s'.op=true\/Waits ops j k)\/∀(k:Nat)(s':St),k<j->sts[k]?=some s'->qA s'.op=false->(goesBy s.op s'.op=true\/jG s'.op s.op=true\/(isX s.op=false/\isX s'.op=false))\/(LateAt ops sts j/\isX s'.op=true)\/Waits ops j k
 keep:∀(i:Nat)s,sts[i]?=some s->∀t,.v t∈me s.op->∀(k:Nat)s',sts[k]?=some s'->s'.dst≠some t
 names:∀(i:Nat)s,sts[i]?=some s->∀t∈s.names,∀(k:Nat)s',sts[k]?=some s'->s'.dst=some t->(k<i->Waits ops i k)/\(i<k->Waits ops k i)
theorem wS{a:Array Oper}{c:List St}(u:c.length=a.size)(h:GG a.toList c=true):Draw a c:=by
 simp only[GG,Bool.and_eq_true]at h;obtain⟨⟨⟨L,N⟩,K⟩,J⟩:=h;have C:∀i k,((masks a.toList []).getD i 0).testBit k=true->Waits a i k:=λi k n=>by obtain⟨m,C,v⟩:=getD_bit n;exact Bx a.toList [] (by simp) (by simp) i m k C v
 refine⟨u,λj o B e w n=>?_,λj s l I G=>?_,λi s l t A k y f x=>?_,λi s l t A k y f x=>?_⟩;·have :=xT a.toList 0 L j o (by grind) e w n;omega
 ·have p:=qN c 0 false N j s l I (.inr G);rw[Nat.zero_add]at p;refine p.imp (λx=>⟨x.1,λk y v f Q=>?_⟩) λr k y v f S=>?_;·grind
  have :=r k v;rcases this with(((h|h)|h)|h|h)|h;·grind
  ·refine .inr (.inl ⟨?_,by grind⟩);obtain⟨R,z,u⟩:=GR c 0 j (by simpa using h.1);rw[l]at z;simp only[Option.some.injEq]at z;subst z;rw[Nat.zero_add]at u;simp only[SW,Bool.and_eq_true]at u;obtain⟨⟨D,T⟩,H⟩:=u;refine⟨?_,λo B e w n=>?_,λq o e B w n E k2 R P O F M=>?_⟩;·obtain⟨d,g,Z⟩:=s;simp only[isBoxZ,Bool.and_eq_true]at D;obtain⟨⟨U,X⟩,V⟩:=D;cases d with|none=>grind|some d=>cases g with|some _=>grind|none=>grind
   ·grind
   ·have Y:=List.all_eq_true.1 H q (by grind);grind
  all_goals grind
 ·have :=List.all_eq_true.1 J s (List.mem_of_getElem? l);have :=List.all_eq_true.1 this _ A;grind
 ·have :=rD c 0 K i s l;rw[Nat.zero_add]at this;have :=List.all_eq_true.1 this t A;have :=List.all_eq_true.1 this k (by grind);grind
section


variable{ν:Nat->Nat}{w0 w w':World}{S0 S S':Nat->Prop}{μ0 μ μ':Nat->Value}{H0 H H':Heap}{b g:Nat}
def Un(w:World)(S:Nat->Prop)(μ:Nat->Value)(H:Heap)(b:Nat):Prop:=b<w.heap.size/\¬S b/\¬alive μ H b
theorem Un.run(h:Un w S μ H b)(a:Run ν w S μ H w' S' μ' H'):Un w' S' μ' H' b/\w'.heap[b]?=w.heap[b]?:=⟨⟨Nat.lt_of_lt_of_le h.1 a.ext.size,λf=>(a.ext.new b f h.1).elim h.2.1 h.2.2,λi=>h.2.2 (a.ext.own b i h.1)⟩,a.ext.keep b h.1 h.2.2⟩
theorem Un.fresh(a:Rel ν w S μ H)(o:Obj):Un (w.alloc o) S μ H w.heap.size:=by refine⟨by simp,λh=>Nat.lt_irrefl _ (a.lt _ h),λh=>?_⟩;let⟨e,b,d,_,c⟩:=alive_iff.1 h;exact Nat.lt_irrefl _ (a.blk_lt d c)
theorem Un.size(h:Un w S μ H b)(a:w.heap.size<=w'.heap.size):Un w' S μ H b:=⟨Nat.lt_of_lt_of_le h.1 a,h.2⟩
theorem CellsRel.keep{cs:List AV}{us:Array Value}(h:CellsRel ν w S μ H cs us)(m:∀g,S g->S' g)(l:∀g,S g->w'.heap[g]?=w.heap[g]?)(e:Moves μ H μ' H'):CellsRel ν w' S' μ' H' cs us:=⟨h.size,h.one,λj c d=>(h.rel j c d).keep m l e⟩
theorem Step.bind(a:Step ν w0 S0 μ0 H0 w S μ H)(L:w0.heap.size<=g)(y:Un w S μ H g){cs:List AV}{us:Array Value}{T:TypeId}(D:w.heap[g]?=some (.cells us T))(t:CellsRel ν w S μ H cs us):∃m,Step ν w0 S0 μ0 H0 w S m (H++[.box cs])/\Moves μ H m (H++[.box cs])/\(∀b,Un w S μ H b->b≠g->Un w S m (H++[.box cs]) b)/\RelV ν w S m (H++[.box cs]) (.bx H.length 0) (.pointer (some ⟨g,0,none⟩)):=by
 have s:=a.rel;have f:∀(e:Nat)c,(H++[.box cs])[e]?=some c->(e<H.length/\H[e]?=some c)\/(e=H.length/\c=.box cs):=by grind
 have z:∀x,alive (upd μ H.length (.pointer (some ⟨g,0,none⟩))) (H++[.box cs]) x->alive μ H x\/x=g:=by
  intro x n;let⟨e,c,E,q,r⟩:=alive_iff.1 n;rcases f e c E with⟨p,h⟩|⟨rfl,rfl⟩;·rw[upd_ne (by omega)]at r;exact .inl (alive_iff.2 ⟨e,c,h,q,r⟩)
  ·rw[upd_same]at r;simp[aO,]at r;grind
 refine⟨upd μ H.length (.pointer (some ⟨g,0,none⟩)),⟨⟨s.lt,λe c h=>?_,λx n B=>?_,λi j x hi l I F=>?_⟩,⟨a.ext.os,a.ext.tape,a.ext.output,a.ext.size,a.ext.keep,a.ext.more,a.ext.new,λx n p=>?_⟩,a.moves.trans iu⟩,iu,λx v J=>⟨v.1,v.2.1,λn=>?_⟩,?_⟩
 ·rcases f e c h with⟨p,h⟩|⟨rfl,rfl⟩;·exact(s.blk e c h).keep (λ_ h=>h) (λ_ _=>rfl) iu (upd_ne (by omega)) (λ_ _=>rfl)
  ·exact⟨g,upd_same,.inl ⟨us,T,D,t.size,t.one,λj c l=>(t.rel j c l).keep (λ_ h=>h) (λ_ _=>rfl) iu⟩⟩
 ·rcases z x n with h|rfl;·exact s.apart x h B
  ·exact y.2.1 B
 ·have o:∀k:Nat,((∃ds,(H++[Blk.box cs])[k]?=some (Blk.box ds))\/∃sz xs,(H++[Blk.box cs])[k]?=some (Blk.row false sz xs))->∃c,(H++[Blk.box cs])[k]?=some c/\cW c:=by
   rintro k(⟨cs,h⟩|⟨sz,xs,h⟩);·exact⟨_,h,.inl ⟨cs,rfl⟩⟩
   ·exact⟨_,h,.inr ⟨sz,xs,rfl⟩⟩
  let⟨c,u,A⟩:=o i I;let⟨d,G,C⟩:=o j F;rcases f i c u with⟨p,h⟩|⟨rfl,rfl⟩<;>rcases f j d G with⟨K,q⟩|⟨rfl,rfl⟩;·rw[upd_ne (by omega)]at hi l;exact s.inj' h q A C hi l
  ·rw[upd_ne (by omega)]at hi;rw[upd_same]at l;simp[aO,]at l;subst l;exact absurd (alive_iff.2 ⟨i,c,h,A,hi⟩) y.2.2
  ·rw[upd_ne (by omega)]at l;rw[upd_same]at hi;simp[aO,]at hi;subst hi;exact absurd (alive_iff.2 ⟨j,d,q,C,l⟩) y.2.2
  ·rfl
 ·rcases z x n with h|rfl;·exact a.ext.own x h p
  grind
 ·rcases z x n with h|h;·exact v.2.2 h
  grind
 ·exact .bx _ _ g _ (by simp) (λ_ _=>upd_same) rfl
end
theorem Sv{Γ:Ctx}{N:Names}{P:Program}{w:World}{S:Nat->Prop}{μ:Nat->Value}{H:Heap}{σ:Nat->AV}{a:Act}{c:Array Oper}{nt i d:Nat}{o:Oper}{z:List PV}(hi:c[i]?=some o)(f:vH P N c nt o ⟨some d,none,.inr (.alloc z)⟩=true)(j:Env.Rel Γ N w S μ H σ a){K:Act->World->Prop}{Q:Exit->Act->World->Prop}(m:∀(us:Array Value)(T:TypeId),CellsRel N.fn w S μ H (z.map .p) us->K (a.put (some d) (.pointer (some ⟨w.heap.size,0,none⟩))) (w.alloc (.cells us T))):Go.wpOp P c Q i K a w:=by
 simp[vH,]at f;let⟨⟨⟨l,_⟩,k⟩,e⟩:=f;unfold Go.wpOp;simp[hi];rw[<-l]at m;simp[qQ j k (b:=true) rfl,];refine .inl ?_;simp[chkOp,chkX]at e;split at e
 ·rename_i T g;let⟨h,n,q⟩:=tS (N:=N) (w:=w) (S:=S) (μ:=μ) (H:=H) e;have s:(execOp a.eval o).run P w=.ok (.value (.pointer (some ⟨w.heap.size,0,none⟩))) (w.alloc (.cells h.cells T)):=by simp[execOp,g,Go.Instr.alloc,n,Go.newVar,Go.newRow]
  simp[Go.Oper.wp,Go.Oper.upon];grind
 grind
end Ab
