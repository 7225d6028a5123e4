import Derived.Test.YtbehhmffelnmfaaGreatDoorAbY7
import Derived.LoopN
import Derived.Scope
import Derived.Test.YtbehhmffelnmfaaGreatDoorDec
import Derived.Lib.Bytealg
import Derived.Lib.Join
import Derived.Lib.Replace
import Derived.Lib.SlParts
set_option linter.all false
namespace Ab
open Go (Act Exit Oper Program Result Sem Value World undef)
def BA(P:Program)(N:Names)(ops:Array Oper)(nt:Nat):List Oper->List St->Bool|[],[]=>true|o::os,s::ss=>vH P N ops nt o s&&BA P N ops nt os ss|_,_=>false
def chkC(P:Program)(N:Names)(nt:Nat):Go.Code->Code->Bool|.skip,.skip=>true|.label _,.skip=>true|.region _ ops draw,.ops _ l=>BA P N ops nt ops.toList l&&(match draw with|true=>GG ops.toList l|false=>true)|.seq a b,.seq a' b'=>chkC P N nt a a'&&chkC P N nt b b'|.cond c a b,.cond c' a' b'=>az N c c'&&chkC P N nt a a'&&chkC P N nt b b'|.block id c,.block _ id' c'=>id==id'&&chkC P N nt c c'|.loop c,.loop _ _ c'=>chkC P N nt c c'|.exit id,.exit id'=>id==id'|.ret,.ret=>true|_,.bad=>true|.scope c,c'=>chkC P N nt c c'|_,_=>false
theorem ry{P N a nt}:∀{c b},BA P N a nt c b=true->b.length=c.length/\∀(j:Nat)s,b[j]?=some s->∃o,c[j]?=some o/\vH P N a nt o s=true
 |[],[],_=>⟨rfl,by simp⟩|o::c,s::b,h=>by simp[BA,]at h;let⟨f,e⟩:=ry h.2;grind|[],_::_,h=>by cases h|_::_,[],h=>by cases h
def RC:Ex->Exit|.nrm=>.normal|.ex i=>.exit i|.ret=>.ret
section


variable{Γ:Ctx}{N:Names}{P:Program}
def After(Γ:Ctx)(N:Names)(st:Bool)(k:Nat)(w:World)(S:Nat->Prop)(μ:Nat->Value)(H:Heap)(a:Act)(env':Env)(H':Heap)(K:Act->World->Prop):Prop:=∀a' w' S' μ',Run N.fn w S μ H w' S' μ' H'->(st=true->k<=H.length->MovesK k μ H μ' H')->Env.Rel Γ N w' S' μ' H' (look env') a'->a'.tmps.size=a.tmps.size->a'.defers=a.defers->K a' w'
def CodeAt(Γ:Ctx)(N:Names)(P:Program)(n:Nat):Prop:=∀(nt:Nat)(c:Go.Code)(c':Code)(env:Env)(H:Heap)(e:Ex)(env':Env)(H':Heap)(k:Nat),chkC P N nt c c'=true->ev Γ n c' env H=some (e,env',H')->∀w S μ a(Q:Exit->Act->World->Prop),Rel N.fn w S μ H->Env.Rel Γ N w S μ H (look env) a->nt<=a.tmps.size->After Γ N (c'.still k) k w S μ H a env' H' (Q (RC e))->c.wp P Q a w
def Mf(Γ:Ctx)(N:Names)(P:Program)(n:Nat):Prop:=∀(nt:Nat)(c:Go.Code)(c':Code)(live:List Nat)(gc:Option Nat)(env:Env)(H:Heap)(e:Ex)(env':Env)(H':Heap)(k:Nat),chkC P N nt c c'=true->ev Γ n (.loop live gc c') env H=some (e,env',H')->∀w S μ a(Q:Exit->Act->World->Prop),Rel N.fn w S μ H->Env.Rel Γ N w S μ H (look env) a->nt<=a.tmps.size->After Γ N (Code.still k (.loop live gc c')) k w S μ H a env' H' (Q (RC e))->Go.Code.rounds P c Q n a w
theorem After.trans{st d:Bool}{k:Nat}{w t:World}{S q:Nat->Prop}{μ c:Nat->Value}{H m u:Heap}{a p:Act}{b:Env}{K:Act->World->Prop}(h:After Γ N st k w S μ H a b u K)(C:Run N.fn w S μ H t q c m)(r:st=true->k<=H.length->MovesK k μ H c m)(f:st=true->d=true)(x:p.tmps.size=a.tmps.size)(B:p.defers=a.defers):After Γ N d k t q c m p b u K:=λv z y l o g A n j=>h v z y l (C.trans o) (λe s=>(r e s).trans (g (f e) (r e s).len)) A (n.trans x) (j.trans B)
theorem After.of{st st':Bool}{k:Nat}{w:World}{S:Nat->Prop}{μ:Nat->Value}{H H':Heap}{a:Act}{env':Env}{K:Act->World->Prop}(h:After Γ N st k w S μ H a env' H' K)(hst:st=true->st'=true):After Γ N st' k w S μ H a env' H' K:=λa' w' S' μ' hr' hm' he hs' hd'=>h a' w' S' μ' hr' (λe hk=>hm' (hst e) hk) he hs' hd'
theorem FH(p:P.follows .mixedOrders=true){cal:Nat->List AV->Heap->Option (List AV×Heap)}(f:iL Γ N P cal){nt U k:Nat}{b:Array Oper}{d:Bool}{l:List St}{v e:Env}{H J:Heap}{w:World}{S:Nat->Prop}{μ:Nat->Value}{a:Act}{Q:Exit->Act->World->Prop}(V:BA P N b nt b.toList l=true)(Y:d=true->GG b.toList l=true)(M:iA Γ cal l v H=some (e,J))(x:Rel N.fn w S μ H)(F:Env.Rel Γ N w S μ H (look v) a)(L:nt<=a.tmps.size)(K:After Γ N true k w S μ H a e J (Q .normal)):(Go.Code.region U b d).wp P Q a w:=by
 let⟨z,u⟩:=ry V;have z:l.length=b.size:=by grind
 have u:∀(j:Nat)s,l[j]?=some s->∃o,b[j]?=some o/\vH P N b nt o s=true:=λj s T=>by grind
 cases d with|false=>refine Go.wp_region ?_;rw[List.range_eq_range',<-z];exact Fv f l 0 (λj s T=>by grind) M x F L λD y B q r A I C=>K D y B q r.run (λ_ G=>r.moves.toK G) A I C|true=>
  refine Go.wp_region_any p ?_;obtain⟨E,R,X,Z,rfl,rfl,rfl,rfl⟩:=zu l M;have c:Step N.fn w S μ (R 0) {w with drawn:=w.drawn+1} S μ (R 0):=.grow x (Grows.drew w) (λ_ h=>h) (λg h=>Nat.lt_of_lt_of_le (x.lt g h) (Grows.drew w).size) (λ_ h=>.inl h);have O:∀i,(Array.replicate b.size false).getD i false=false:=λi=>by rcases Nat.lt_or_ge i b.size with h|h;all_goals simp[*]
  have W:∀n t,qK l (λi=>(Array.replicate b.size false).getD i false) t n=0:=λn t=>by induction n with|zero=>rfl|succ n ih=>unfold qK;grind
  refine BO f (wS z (Y rfl)) u Z (w0:={w with drawn:=w.drawn+1}) (S0:=S) (μ0:=μ) (a0:=a) L (λD y B q r A I C _=>K D y B q (c.run.trans r.run) (λ_ G=>(c.moves.trans r.moves).toK G) A I C) b.size (List.range b.size) _ a _ List.nodup_range (λi=>?_) (by simp) ⟨by grind,λj o _ T=>?_,rfl,rfl,λ_ _=>rfl,S,μ,0,λ_=>0,⟨.refl c.rel,GlRel.step x c F.gl,Nat.zero_le _,λm s p=>by omega,λm p=>?_,λm _ p=>?_,λt _=>?_⟩,λm p=>?_⟩;·grind
  ·grind
  ·have :=p.2.1;grind
  ·have :=p.2.1;grind
  ·rw[W];exact(F.env t).step x c
  ·have :=p.2.1;grind
theorem Gl(f:P.follows .mixedOrders=true){cal:Nat->List AV->Heap->Option (List AV×Heap)}(q:iL Γ N P cal){nt R:Nat}{b:Array Oper}{l:List St}{r e:Env}{H y:Heap}{w:World}{S:Nat->Prop}{μ:Nat->Value}{a:Act}{Q:Exit->Act->World->Prop}(D:BA P N b nt b.toList l=true)(U:GG b.toList l=true)(K:iA Γ cal l r H=some (e,y))(x:Rel N.fn w S μ H)(C:Env.Rel Γ N w S μ H (look r) a)(J:nt<=a.tmps.size)(M:∀k p v d,Step N.fn w S μ H p v d y->Env.Rel Γ N p v d y (look e) k->k.tmps.size=a.tmps.size->k.defers=a.defers->(∀t,(∀s∈l,s.dst≠some t)->k.tmps.getD t undef=a.tmps.getD t undef)->Q .normal k p):(Go.Code.region R b true).wp P Q a w:=by
 let⟨A,u⟩:=ry D;have A:l.length=b.size:=by grind
 have u:∀(j:Nat)s,l[j]?=some s->∃o,b[j]?=some o/\vH P N b nt o s=true:=λj s V=>by grind
 refine Go.wp_region_any f ?_;obtain⟨E,B,O,G,rfl,rfl,rfl,rfl⟩:=zu l K;have c:Step N.fn w S μ (B 0) {w with drawn:=w.drawn+1} S μ (B 0):=.grow x (Grows.drew w) (λ_ h=>h) (λg h=>Nat.lt_of_lt_of_le (x.lt g h) (Grows.drew w).size) (λ_ h=>.inl h);have z:∀i,(Array.replicate b.size false).getD i false=false:=λi=>by rcases Nat.lt_or_ge i b.size with h|h;all_goals simp[*]
 have F:∀n t,qK l (λi=>(Array.replicate b.size false).getD i false) t n=0:=λn t=>by induction n with|zero=>rfl|succ n Z=>unfold qK;grind
 refine BO q (wS A U) u G (w0:={w with drawn:=w.drawn+1}) (S0:=S) (μ0:=μ) (a0:=a) J (λk p v d X I T L W=>M k p v d (c.trans X) I T L W) b.size (List.range b.size) _ a _ List.nodup_range (λi=>?_) (by simp) ⟨by grind,λj o _ V=>?_,rfl,rfl,λ_ _=>rfl,S,μ,0,λ_=>0,⟨.refl c.rel,GlRel.step x c C.gl,Nat.zero_le _,λm s f=>by omega,λm f=>?_,λm _ f=>?_,λt _=>?_⟩,λm f=>?_⟩;·grind
 ·grind
 ·have :=f.2.1;grind
 ·have :=f.2.1;grind
 ·rw[F];exact(C.env t).step x c
 ·have :=f.2.1;grind
theorem ED(hm:P.follows .mixedOrders=true):∀n,(∀m<n,iL Γ N P (callOf Γ (ev Γ m)))->CodeAt Γ N P n/\Mf Γ N P n
 |0,_=>⟨λ_ _ _ _ _ _ _ _ _ _ h=>by simp[ev]at h,λ_ _ _ _ _ _ _ _ _ _ _ _ h=>by simp[ev]at h⟩|n+1,hcal=>by
  obtain⟨ihC,ihR⟩:=ED hm n λm h=>hcal m (by omega);have hR:Mf Γ N P (n+1):=by
   intro nt c c' live gc env H e env' H' k hc hv w S μ a Q hr he hn hQ;rw[Go.rounds_succ];simp only[ev]at hv;split at hv;·cases hv
   ·rename_i e1 h1 hnorm;obtain⟨μ1,hrun,hmv,he1⟩:=OA hr he hnorm;have hst:Code.still k (.loop live gc c')=true->UH gc k=true/\c'.still k=true:=λh=>by simp only[Code.still,Bool.and_eq_true]at h;exact h
    split at hv;·rename_i env2 H2 hb;refine ihC nt c c' e1 h1 _ _ _ k hc hb w S μ1 a _ hrun.rel he1 hn λa2 w2 S2 μ2 hrun2 hm2 he2 hs2 hd2=>?_;exact ihR nt c c' live gc env2 H2 e env' H' k hc hv w2 S2 μ2 a2 Q hrun2.rel he2 (by omega) (hQ.trans (hrun.trans hrun2) (λh hk=>(hmv k (hst h).1 hk).trans (hm2 (hst h).2 (hmv k (hst h).1 hk).len)) id hs2 hd2)
    ·rename_i hno;obtain⟨ex,env2,H2⟩:Out:=(e,env',H');refine ihC nt c c' e1 h1 _ _ _ k hc hv w S μ1 a _ hrun.rel he1 hn ?_;have hQ:=hQ.trans hrun (λh hk=>hmv k (hst h).1 hk) (λh=>(hst h).2) rfl rfl;cases e with|nrm=>exact absurd hv (hno _ _)|ex i=>exact hQ|ret=>exact hQ
  refine⟨?_,hR⟩;intro nt c;induction c with
  |scope c ih=>
   intro c' env H e env' H' k hc hv w S μ a Q hr he hn hQ;have hc:chkC P N nt c c'=true:=by cases c'<;>first|exact hc|(simp[ev]at hv)
   refine Go.wp_scope_straight (ih c' env H e env' H' k hc hv w S μ a _ hr he hn ?_);cases e<;>exact hQ|skip=>
   intro c' env H e env' H' k hc hv w S μ a Q hr he hn hQ;have nobad:c'≠.bad:=by rintro rfl;simp[ev]at hv
   cases c'<;>first|(exact Bool.noConfusion hc)|(exact absurd rfl nobad)|skip
   simp only[ev,Option.some.injEq,Prod.mk.injEq]at hv;obtain⟨rfl,rfl,rfl⟩:=hv;exact Go.wp_skip (hQ a w S μ (.refl hr) (λ_ hk=>Moves.refl.toK hk) he rfl rfl)|label l=>
   intro c' env H e env' H' k hc hv w S μ a Q hr he hn hQ;have nobad:c'≠.bad:=by rintro rfl;simp[ev]at hv
   cases c'<;>first|(exact Bool.noConfusion hc)|(exact absurd rfl nobad)|skip
   simp only[ev,Option.some.injEq,Prod.mk.injEq]at hv;obtain⟨rfl,rfl,rfl⟩:=hv;exact Go.wp_label (hQ a w S μ (.refl hr) (λ_ hk=>Moves.refl.toK hk) he rfl rfl)|ret=>
   intro c' env H e env' H' k hc hv w S μ a Q hr he hn hQ;have nobad:c'≠.bad:=by rintro rfl;simp[ev]at hv
   cases c'<;>first|(exact Bool.noConfusion hc)|(exact absurd rfl nobad)|skip
   simp only[ev,Option.some.injEq,Prod.mk.injEq]at hv;obtain⟨rfl,rfl,rfl⟩:=hv;exact Go.wp_ret (hQ a w S μ (.refl hr) (λ_ hk=>Moves.refl.toK hk) he rfl rfl)|exit id=>
   intro c' env H e env' H' k hc hv w S μ a Q hr he hn hQ;have nobad:c'≠.bad:=by rintro rfl;simp[ev]at hv
   cases c'<;>first|(exact Bool.noConfusion hc)|(exact absurd rfl nobad)|skip
   simp only[ev,Option.some.injEq,Prod.mk.injEq]at hv;obtain⟨rfl,rfl,rfl⟩:=hv;simp only[chkC,beq_iff_eq]at hc;subst hc;exact Go.wp_exit (hQ a w S μ (.refl hr) (λ_ hk=>Moves.refl.toK hk) he rfl rfl)|region id ops draw=>
   intro c' env H e env' H' k hc hv w S μ a Q hr he hn hQ;have nobad:c'≠.bad:=by rintro rfl;simp[ev]at hv
   cases c'<;>first|(exact Bool.noConfusion hc)|(exact absurd rfl nobad)|skip
   rename_i live l;simp only[ev,Option.map_eq_some_iff,Prod.mk.injEq]at hv;obtain⟨⟨env1,H1⟩,hv,rfl,rfl,rfl⟩:=hv;simp only[chkC,Bool.and_eq_true]at hc;refine FH (k:=k) hm (hcal n (by omega)) hc.1 (λh=>by subst h;exact hc.2) hv hr he hn λa' w' S' μ' h1 hm1 h2 h3 h4=>?_;exact hQ a' w' S' μ' h1 (λ_ hk=>hm1 rfl hk) (h2.prune live) h3 h4|seq x y _ _=>
   intro c' env H e env' H' k hc hv w S μ a Q hr he hn hQ;have nobad:c'≠.bad:=by rintro rfl;simp[ev]at hv
   cases c'<;>first|(exact Bool.noConfusion hc)|(exact absurd rfl nobad)|skip
   rename_i x' y';simp only[chkC,Bool.and_eq_true]at hc;refine Go.wp_seq ?_;simp only[ev]at hv;split at hv;·rename_i env1 H1 h1;refine ihC nt x x' _ _ _ _ _ k hc.1 h1 w S μ a _ hr he hn λa1 w1 S1 μ1 hrun hm1 he1 hs hd=>?_;exact ihC nt y y' _ _ _ _ _ k hc.2 hv w1 S1 μ1 a1 Q hrun.rel he1 (by omega) (hQ.trans hrun (λh hk=>hm1 (by simp only[Code.still,Bool.and_eq_true]at h;exact h.1) hk) (λh=>by simp only[Code.still,Bool.and_eq_true]at h;exact h.2) hs hd)
   ·rename_i hno;refine ihC nt x x' _ _ _ _ _ k hc.1 hv w S μ a _ hr he hn ?_;have hQ:=hQ.of (st':=x'.still k) (λh=>by simp only[Code.still,Bool.and_eq_true]at h;exact h.1);cases e with|nrm=>exact absurd hv (hno _ _)|ex i=>exact hQ|ret=>exact hQ
  |cond g x y _ _=>
   intro c' env H e env' H' k hc hv w S μ a Q hr he hn hQ;have nobad:c'≠.bad:=by rintro rfl;simp[ev]at hv
   cases c'<;>first|(exact Bool.noConfusion hc)|(exact absurd rfl nobad)|skip
   rename_i g' x' y';simp only[chkC,Bool.and_eq_true]at hc;have hg:=he.arg hc.1.1;simp only[ev]at hv;split at hv;·rename_i t ht;rw[ht]at hg;refine Go.wp_cond hg.bool_inv ?_;cases t with|true=>exact ihC nt x x' _ _ _ _ _ k hc.1.2 hv w S μ a Q hr he hn (hQ.of λh=>by simp only[Code.still,Bool.and_eq_true]at h;exact h.1)|false=>exact ihC nt y y' _ _ _ _ _ k hc.2 hv w S μ a Q hr he hn (hQ.of λh=>by simp only[Code.still,Bool.and_eq_true]at h;exact h.2)
   ·cases hv|block id x _=>
   intro c' env H e env' H' k hc hv w S μ a Q hr he hn hQ;have nobad:c'≠.bad:=by rintro rfl;simp[ev]at hv
   cases c'<;>first|(exact Bool.noConfusion hc)|(exact absurd rfl nobad)|skip
   rename_i live id' x';simp only[chkC,Bool.and_eq_true,beq_iff_eq]at hc;obtain⟨rfl,hc⟩:=hc;refine Go.wp_block ?_;simp only[ev]at hv;split at hv;·rename_i env1 H1 h1;simp only[Option.some.injEq,Prod.mk.injEq]at hv;obtain⟨rfl,rfl,rfl⟩:=hv;exact ihC nt x x' _ _ _ _ _ k hc h1 w S μ a _ hr he hn λa1 w1 S1 μ1 hrun hm1 he1 hs hd=>hQ a1 w1 S1 μ1 hrun hm1 (he1.prune live) hs hd
   ·rename_i i env1 H1 h1;refine ihC nt x x' _ _ _ _ _ k hc h1 w S μ a _ hr he hn λa1 w1 S1 μ1 hrun hm1 he1 hs hd=>?_;simp only[RC,Go.Exit.inBlock];split at hv;·rename_i hi;simp only[Option.some.injEq,Prod.mk.injEq]at hv;obtain⟨rfl,rfl,rfl⟩:=hv;rw[if_pos hi];exact hQ a1 w1 S1 μ1 hrun hm1 (he1.prune live) hs hd
    ·rename_i hi;simp only[Option.some.injEq,Prod.mk.injEq]at hv;obtain⟨rfl,rfl,rfl⟩:=hv;rw[if_neg hi];exact hQ a1 w1 S1 μ1 hrun hm1 he1 hs hd
   ·rename_i h1 h2;refine ihC nt x x' _ _ _ _ _ k hc hv w S μ a _ hr he hn λa1 w1 S1 μ1 hrun hm1 he1 hs hd=>?_;cases e with|nrm=>exact absurd hv (h1 _ _)|ex i=>exact absurd hv (h2 _ _ _)|ret=>exact hQ a1 w1 S1 μ1 hrun hm1 he1 hs hd
  |loop x _=>
   intro c' env H e env' H' k hc hv w S μ a Q hr he hn hQ;have nobad:c'≠.bad:=by rintro rfl;simp[ev]at hv
   cases c'<;>first|(exact Bool.noConfusion hc)|(exact absurd rfl nobad)|skip
   rename_i live gc x';simp only[chkC]at hc;exact Go.wp_loop_rounds (n+1) (hR nt x x' live gc env H e env' H' k hc hv w S μ a Q hr he hn hQ)|rangeFunc f ps x y=>intro c' _ _ _ _ _ _ hc hv;cases c'<;>first|(exact Bool.noConfusion hc)|(simp[ev]at hv)
  |goto l=>intro c' _ _ _ _ _ _ hc hv;cases c'<;>first|(exact Bool.noConfusion hc)|(simp[ev]at hv)
  |refuse s=>intro c' _ _ _ _ _ _ hc hv;cases c'<;>first|(exact Bool.noConfusion hc)|(simp[ev]at hv)
end
def oq(P:Program):List Go.ResultVar->List RV->Bool|[],[]=>true|.tmp t::rs,.slot t'::ss=>t==t'&&oq P rs ss|.cell t T::rs,.cell t' sz ag::ss=>t==t'&&aggT P T ag&&nz P T sz&&oq P rs ss|_,_=>false
def chkF(P:Program)(N:Names)(g:Go.Func)(fn:AFn):Bool:=decide (fn.np<=g.ntmps)&&oq P g.results.toList fn.results&&!(g.name== "runtime.NumGoroutine")&&(match g.body with|some c=>chkC P N g.ntmps c fn.body|none=>false)
def BN(Γ:Ctx)(N:Names)(P:Program)(f:Nat)(g:List PV->Option (List PV)):Prop:=∀ps rs,g ps=some rs->∀w S us,(∀g,S g->g<w.heap.size)->GlRel Γ N w S->All2 (λu p=>RelP N.fn w S p u) us ps->Does P (N.fn f) us.toArray w (λv w'=>∃vs S',v=iK vs/\Grows w w'/\(∀g,S g->S' g)/\(∀g,S' g->g<w'.heap.size)/\(∀g,S' g->S g\/w.heap.size<=g)/\All2 (λu p=>RelP N.fn w' S' p u) vs rs)
def FreshOk(Γ:Ctx)(N:Names)(P:Program)(f:Nat)(g:List PV->Option (Nat×List PV)):Prop:=∀ps r,g ps=some r->∀w S us,(∀g,S g->g<w.heap.size)->GlRel Γ N w S->All2 (λu p=>RelP N.fn w S p u) us ps->Does P (N.fn f) us.toArray w (λv w'=>∃cells,Grows w w'/\RowAt w' v r.1 r.2.length cells/\v.oneCell'=true/\FlatRel N.fn w' S r.1 r.2 cells/\∀g,aO v=some g->w.heap.size<=g)
def UpdOk(Γ:Ctx)(N:Names)(P:Program)(f:Nat)(g:List PV->Nat->List PV->Option (List PV)):Prop:=∀ps sz xs ys,g ps sz xs=some ys->ys.length=xs.length->xs.length<=lim->∀w S u us cells,(∀g,S g->g<w.heap.size)->GlRel Γ N w S->RowAt w u sz xs.length cells->FlatRel N.fn w S sz xs cells->(∀g,aO u=some g->¬S g/\g<w.heap.size)->All2 (λu p=>RelP N.fn w S p u) us ps->Does P (N.fn f) (u::us).toArray w (λv w'=>v=iK []/\w'.os=w.os/\w'.tape=w.tape/\w'.output=w.output/\w.heap.size<=w'.heap.size/\(∀b,b<w.heap.size->aO u≠some b->w'.heap[b]?=w.heap[b]?)/\∃cells',RowAt w' u sz ys.length cells'/\FlatRel N.fn w' S sz ys cells')
def RS(Γ:Ctx)(N:Names)(P:Program)(f:Nat)(g:List AV->Heap->Option (List PV)):Prop:=∀args H rs,g args H=some rs->∀w S μ us,Rel N.fn w S μ H->GlRel Γ N w S->All2 (λu x=>RelV N.fn w S μ H x u) us args->Does P (N.fn f) us.toArray w (λv w'=>∃vs S',v=iK vs/\Grows w w'/\(∀g,S g->S' g)/\(∀g,S' g->g<w'.heap.size)/\(∀g,S' g->S g\/w.heap.size<=g)/\All2 (λu p=>RelP N.fn w' S' p u) vs rs)
def TG(Γ:Ctx)(N:Names)(P:Program)(f c:Nat)(q:List AV->Heap->Option (List (List PV×Int)))(g:List AV->Heap->Option (List PV)):Prop:=∀args H ps rs,q args H=some ps->g args H=some rs->(∀p∈ps,∀w T us,(∀g,T g->g<w.heap.size)->GlRel Γ N w T->All2 (λu p=>RelP N.fn w T p u) us p.1->Does P (N.fn c) us.toArray w (λv w'=>v=.int .i64 p.2/\Grows w w'))->∀w S μ us,Rel N.fn w S μ H->GlRel Γ N w S->All2 (λu x=>RelV N.fn w S μ H x u) us args->Does P (N.fn f) us.toArray w (λv w'=>∃vs S',v=iK vs/\Grows w w'/\(∀g,S g->S' g)/\(∀g,S' g->g<w'.heap.size)/\(∀g,S' g->S g\/w.heap.size<=g)/\All2 (λu p=>RelP N.fn w' S' p u) vs rs)
def HiOk(Γ:Ctx)(N:Names)(P:Program)(f:Nat)(g:HiFn):Prop:=∀cal,iL Γ N P cal->∀args H rs H',g.go cal args H=some (rs,H')->∀w S μ us,Rel N.fn w S μ H->GlRel Γ N w S->All2 (λu x=>RelV N.fn w S μ H x u) us args->Does P (N.fn f) us.toArray w (λv w'=>∃vs S' μ',v=iK vs/\Run N.fn w S μ H w' S' μ' H'/\Moves μ H μ' H'/\All2 (λu x=>RelV N.fn w' S' μ' H' x u) vs rs)
structure Known(Γ:Ctx)(N:Names)(P:Program):Prop where
 mixed:P.follows .mixedOrders=true
 code:∀f fn,Γ.fn f=some (.code fn)->∃g,P.funcs[N.fn f]?=some g/\chkF P N g fn=true
 prim:∀f g,Γ.fn f=some (.prim g)->BN Γ N P f g
 fresh:∀f g,Γ.fn f=some (.fresh g)->FreshOk Γ N P f g
 upd:∀f g,Γ.fn f=some (.upd g)->UpdOk Γ N P f g
 look:∀f g,Γ.fn f=some (.look g)->RS Γ N P f g
 lookc:∀f c q g,Γ.fn f=some (.lookc c q g)->TG Γ N P f c q g
 hi:∀f g,Γ.fn f=some (.hi g)->HiOk Γ N P f g
section


variable{Γ:Ctx}{N:Names}{P:Program}
theorem Qb:∀{args:List AV}{t:Nat},look (ma args) t=(args[t]?).getD .any:=by
 have a:∀(args:List AV)(k t:Nat),look ((args.zipIdx k).map λx=>(x.2,x.1)) t=if k<=t then(args[t-k]?).getD .any else .any:=by intro args;induction args with|nil=>intro k t;simp[look]|cons x r d=>intro k t;simp[look];grind
 intro args t;have :=a args 0 t;simpa[ma]using this
def Pu(tmps:Array Value):Go.ResultVar->Sem Value|.tmp t=>pure (tmps.getD t undef)|.cell x t=>do Go.loadVar t (<-Go.asAddr (tmps.getD x undef))
theorem Ri{w:World}{S:Nat->Prop}{μ:Nat->Value}{H:Heap}{x:Value}{k v:AV}{sz:Nat}{ag:Bool}(l:Rel N.fn w S μ H)(b:RelV N.fn w S μ H k x)(a:kj H sz ag k=some v):∃e,x=.pointer (some e):=by
 unfold kj at a;split at a;·cases b with|p _ _ b=>cases b with|ptr d e=>simp
 ·cases b with|bx _ _ g _ _ _ h=>grind
 ·rename_i u n i m;let⟨r,c,a⟩:=Option.bind_eq_some_iff.1 a;let⟨y,t,a⟩:=Option.bind_eq_some_iff.1 a;let⟨f,c,q⟩:=cl c;have hi:i<n:=by grind
  cases b with|el _ _ _ _ _ s h j=>let⟨_,o⟩:=h f _ _ c;obtain⟨g,cap,A,rfl⟩:=(o q.symm).1 hi;simp
 grind
theorem nB{w:World}{S:Nat->Prop}{μ:Nat->Value}{H:Heap}{a:Act}{g:Env}(c:Rel N.fn w S μ H)(f:Env.Rel Γ N w S μ H (look g) a):∀{rs:List Go.ResultVar}{k:List RV}{e:List AV},oq P rs k=true->mapO (RV.get g H) k=some e->∃us,(rs.mapM (Pu a.tmps)).run P w=.ok us w/\All2 (λu x=>RelV N.fn w S μ H x u) us e
 |[],[],e,_,h=>by simp[mapO,]at h;subst h;exact⟨[],by simp,trivial⟩|.tmp t::rs,.slot v::k,e,b,h=>by
  simp[oq,]at b;obtain⟨rfl,b⟩:=b;simp[mapO,RV.get]at h;split at h;·rename_i xs d;simp[]at h;subst h;let⟨us,m,l⟩:=nB c f b d;refine⟨a.tmps.getD t undef::us,?_,f.env t,l⟩;simp[List.mapM_cons,Pu,Go.Sem.run_bind,Go.Sem.run_pure,Go.Result.andThen_ok,m]
  grind|.cell t T::rs,.cell v sz ag::k,e,b,h=>by
  simp[oq,Bool.and_eq_true,beq_iff_eq]at b;obtain⟨⟨⟨rfl,o⟩,n⟩,b⟩:=b;simp[mapO,RV.get]at h;split at h
  ·rename_i x q;split at h
   ·rename_i xs d;simp[Option.some.injEq]at h;subst h;let⟨us,m,l⟩:=nB c f b d;let⟨s,i⟩:=Ri c (f.env t) q;let⟨u,j,r⟩:=PZ (P:=P) c (oC o) (cr n) (f.env t) q;rw[i]at j;have j:(Go.loadVar T s).run P w=.ok u w:=by simpa[Go.Instr.loadAt,Go.Instr.sureAddr]using j
    refine⟨u::us,?_,r,l⟩;simp[List.mapM_cons,Pu,i,Go.asAddr,Go.Sem.run_bind,Go.Sem.run_pure,Go.Result.andThen_ok,j,m]
   grind
  grind|.cell _ _::_,.slot _::_,_,b,_=>by simp[oq]at b|.tmp _::_,.cell _ _ _::_,_,b,_=>by simp[oq]at b|[],_::_,_,b,_=>by simp[oq]at b|.tmp _::_,[],_,b,_=>by simp[oq]at b|.cell _ _::_,[],_,b,_=>by simp[oq]at b
theorem wY{fn:Go.Func}{a:Array Value}{w:World}{us:List Value}(h:(fn.results.toList.mapM (Pu a)).run P w=.ok us w):(Go.results fn a).run P w=.ok (iK us) w:=by have e:Go.results fn a=(do let b<-fn.results.mapM (Pu a);pure (if h:b.size=1 then b[0]else .tuple b)):=rfl;rw[e,Array.mapM_eq_mapM_toList];simp only[Go.Sem.run_bind,h,map_eq_pure_bind,];match us with|[]=>rfl|[x]=>rfl|x::y::r=>rfl
def iD(Γ:Ctx)(n:Nat):Nat->List AV->Heap->Option (List AV×Heap):=λf args H=>match Γ.fn f with|some (.lookc _ _ _)=>none|some (.hi _)=>none|_=>callOf Γ (ev Γ n) f args H
theorem plain_ok(K:Known Γ N P)(n:Nat)(ih:∀m,m<n->iL Γ N P (callOf Γ (ev Γ m))):iL Γ N P (iD Γ n):=by
  intro f args H rs H' a;have hno:∀c q g,Γ.fn f≠some (.lookc c q g):=by intro c q g e;unfold iD at a;grind
  have hnh:∀g,Γ.fn f≠some (.hi g):=by intro g e;unfold iD at a;grind
  replace a:callOf Γ (ev Γ n) f args H=some (rs,H'):=by unfold iD at a;grind
  have Q:=(ED (Γ:=Γ) (N:=N) (P:=P) K.mixed n ih).1;unfold callOf at a;split at a
  ·rename_i g o;split at a
   ·rename_i ps A;split at a
    ·rename_i qs M;simp[Option.some.injEq,Prod.mk.injEq]at a;obtain⟨rfl,rfl⟩:=a;have J:=K.prim f g o ps qs M;refineλw S μ us l d k=>(J w S us l.lt d ?_).mono ?_;·have :=jq A;subst this;have k:=k.get;refine .of_get (by grind) λj x y V hy=>?_;exact(k.2 j x (.p y) V (by grind)).p_inv
     ·rintro e w'⟨vs,R,rfl,o,g1,g2,g3,hv⟩;exact⟨vs,R,μ,rfl,(Step.grow l o g1 g2 g3).run,λ_=>.refl,All2.map_right (hv.imp λu p h=>.p _ _ h)⟩
    grind
   grind
  ·rename_i g o;split at a;rotate_left;·grind
   rename_i ps A;split at a;rotate_left;·grind
   rename_i r hgr;split at a;rotate_left;·grind
   rename_i h0;simp[Option.some.injEq,Prod.mk.injEq]at a;obtain⟨rfl,rfl⟩:=a;refineλw S μ us l d k=>(K.fresh f g o ps r hgr w S us l.lt d ?_).mono ?_;·have :=jq A;subst this;have k:=k.get;refine .of_get (by grind) λj x y V hy=>?_;exact(k.2 j x (.p y) V (by grind)).p_inv
   ·rintro e w'⟨s,hgw,v,hone,hfl,hn⟩;let⟨B,s1,s2⟩:=fG l hgw h0.1 h0.2 v hfl hn;exact⟨[e],S,B,rfl,s1.run,λ_=>s1.moves,s2,trivial⟩
  ·rename_i g o;split at a;rotate_left;·grind
   rename_i O n args;split at a;rotate_left;·grind
   rename_i sz xs U;split at a;rotate_left;·grind
   rename_i hxn;split at a;rotate_left;·grind
   rename_i ps A;split at a;rotate_left;·grind
   rename_i ys hys;split at a;rotate_left;·grind
   rename_i hyl;simp[Option.some.injEq,Prod.mk.injEq]at a;obtain⟨rfl,rfl⟩:=a;intro w S μ us l d k;match us,k with
   |u::us,⟨hu,k⟩=>
   have eu:u=μ O:=by cases hu with|own _ _ _ _ h _=>grind
   subst eu;obtain⟨h0,Z,s,v,hx1,hx2,_⟩:=l.blk O _ U;refine(K.upd f g o ps sz xs ys hys hyl Z w S (μ O) us s l.lt d v ⟨hx1,hx2⟩ (λb E=>⟨l.apart b (alive_iff.2 ⟨O,_,U,.inr ⟨sz,xs,rfl⟩,E⟩),l.blk_lt U E⟩) ?_).mono ?_;·have :=jq A;subst this;have k:=k.get;refine .of_get (by grind) λj x y V hy=>?_;exact(k.2 j x (.p y) V (by grind)).p_inv
   ·rintro e w'⟨rfl,q1,q2,q3,q4,q5,F,q6,q7⟩;have hm:Moves μ H (upd μ O (μ O)) (H.set O (.row false sz ys)):=iQ U (by omega) (λ_=>rfl);have hs:=Step.set l U (.inr ⟨sz,xs,rfl⟩) q1 q2 q3 q4 (λb h1 J=>q5 b h1 J) hm ⟨h0,by omega,F,by simp_all,q7.1,q7.2,by simp⟩ (λb E=>.inl E);exact⟨[],S,_,rfl,hs.run,λ_=>hs.moves,trivial⟩
  ·rename_i g o;split at a;·rename_i qs M;simp[Option.some.injEq,Prod.mk.injEq]at a;obtain⟨rfl,rfl⟩:=a;have J:=K.look f g o args H qs M;refineλw S μ us l d k=>(J w S μ us l d k).mono ?_;rintro e w'⟨vs,R,rfl,o,g1,g2,g3,hv⟩;exact⟨vs,R,μ,rfl,(Step.grow l o g1 g2 g3).run,λ_=>.refl,All2.map_right (hv.imp λu p h=>.p _ _ h)⟩
   grind
  ·grind
  ·grind
  ·rename_i fn hf;let⟨g,o,L⟩:=K.code f fn hf;simp[chkF,Bool.and_eq_true,decide_eq_true_eq]at L;let⟨⟨⟨c1,c2⟩,c3⟩,c4⟩:=L;split at c4;rotate_left;·grind
   rename_i W C;split at a;rotate_left;·grind
   rename_i hlen;have G:Enters P (N.fn f):=λus w=>by
    have X:(g.name== "runtime.NumGoroutine")=false:=by grind
    simp[beq_eq_false_iff_ne,ne_eq]at X;simp[Go.callFunc,o,X,C]
   intro w S μ us l d k;refine .inl ⟨G _ _,Go.calls_of_wp o C ?_⟩;have hul:=k.get.1;have he0:Env.Rel Γ N w S μ H (look (ma args)) {tmps:=us.toArray++Array.replicate (g.ntmps-us.toArray.size) undef,defers:=[]}:=by
    refine⟨λt=>?_,d⟩;rw[Qb];rcases Nat.lt_or_ge t args.length with h|h
    ·rw[List.getElem?_eq_getElem h,Option.getD_some];have :=k.get.2 t (us[t]'(by omega)) args[t] (List.getElem?_eq_getElem _) (List.getElem?_eq_getElem _);have e:(us.toArray++Array.replicate (g.ntmps-us.toArray.size) undef).getD t undef=us[t]'(by omega):=by rw[Array.getD_eq_getD_getElem?,Array.getElem?_append_left (by grind)];grind
     grind
    ·rw[List.getElem?_eq_none h,Option.getD_none];exact .any _
   split at a;·grind
   ·rename_i ex env' H1 hno hev;split at a;·rename_i vs hvs;simp only[Option.some.injEq,Prod.mk.injEq]at a;obtain⟨rfl,rfl⟩:=a;refine Q g.ntmps W fn.body (ma args) H ex env' H1 H.length c4 hev w S μ _ _ l he0 (by grind) λa' w' R B z D he' hs hd=>?_;have D:ir Γ H.length f=true->Moves μ H B H1:=λh=>(D (by simpa[ir,hf]using h) (Nat.le_refl _)).toMoves;let⟨Y,h1,J⟩:=nB z.rel he' c2 hvs;have h3:=wY h1;cases ex with|nrm=>exact⟨hd,_,h3,_,rfl,Y,R,B,rfl,z,D,J⟩|ret=>exact⟨hd,_,h3,_,rfl,Y,R,B,rfl,z,D,J⟩|ex i=>grind
    grind
   grind
  grind
theorem OE{n c:Nat}{a:List PV}{m:Int}(h:runI Γ (ev Γ n) c a=some m):∃b,iD Γ n c (a.map .p) []=some ([.p (.int .i64 m)],b):=by
 unfold runI at h;split at h
 ·rename_i fn e;split at h
  ·rename_i i;split at h;·grind
   ·rename_i x d b f l;split at h;·rename_i k j;simp[]at h;subst h;refine⟨b,?_⟩;unfold iD;rw[e];simp;unfold callOf;grind
    grind
   grind
  grind
 grind
theorem FA{n c:Nat}:∀{ps:List (List PV×Int)},DT Γ (ev Γ n) c ps=true->∀p∈ps,runI Γ (ev Γ n) c p.1=some p.2
 |[],_,p,a=>by grind|x::r,h,p,a=>by
  simp[DT,]at h;rcases List.mem_cons.1 a with rfl|a;·grind
  ·exact FA h.2 p a
theorem HT{n f:Nat}{args:List AV}{H:Heap}{r:List AV×Heap}(h:OB Γ (ev Γ n) f args H=some r):iD Γ n f args H=some r:=by unfold OB at h;unfold iD;cases e:Γ.fn f with|none=>grind|some x=>rw[e]at h;cases x with|code fn=>simp  at h⊢;unfold callOf;grind|prim g=>simp  at h⊢;unfold callOf;grind|_=>grind
theorem all_ok(K:Known Γ N P):∀n,iL Γ N P (callOf Γ (ev Γ n)):=by intro n;induction n using Nat.strongRecOn with|_ n F=>
  have z:=plain_ok K n F;intro f args H rs i a;by_cases Q:∃c q g,Γ.fn f=some (.lookc c q g)
  ·let⟨c,q,g,j⟩:=Q;unfold callOf at a;rw[j]at a;simp  at a;split at a;rotate_left;·grind
   rename_i ps x;split at a;rotate_left;·grind
   rename_i G t;split at a;rotate_left;·grind
   rename_i d;simp[]at a;obtain⟨rfl,rfl⟩:=a;have L:=K.lookc f c q g j args H ps G x t λp A w T us I b k=>by let⟨i,y⟩:=OE (FA d p A);refine(ms z I b k y (rs:=[.int .i64 p.2]) rfl).mono ?_;rintro v C⟨o,rfl,B,r⟩;match o,r with|[v],⟨s,_⟩=>exact⟨s.int_inv,B⟩
   refineλw S μ us m b k=>(L w S μ us m b k).mono ?_;rintro e C⟨o,E,rfl,B,J,O,M,s⟩;exact⟨o,E,μ,rfl,(Step.grow m B J O M).run,λ_=>.refl,All2.map_right (s.imp λu p h=>.p _ _ h)⟩
  ·by_cases D:∃g,Γ.fn f=some (.hi g);·let⟨g,j⟩:=D;unfold callOf at a;rw[j]at a;refineλw S μ us m b k=>(K.hi f g j _ (λf args H rs i a=>z f args H rs i (HT a)) args H rs i a w S μ us m b k).mono ?_;grind
   refine z f args H rs i ?_;unfold iD;grind
theorem RL(K:Known Γ N P){n f:Nat}{ps rs:List PV}{r:List AV×Heap}{us:List Value}{w:World}{T:Nat->Prop}(i:∀g,T g->g<w.heap.size)(a:GlRel Γ N w T)(h:All2 (λu p=>RelP N.fn w T p u) us ps)(e:callOf Γ (ev Γ n) f (ps.map .p) []=some r)(b:mapO (aI r.2 4) r.1=some rs):Does P (N.fn f) us.toArray w (λv c=>∃d,v=iK d/\Grows w c/\All2 (λu p=>RelP N.fn c (λg=>T g\/(w.heap.size<=g/\g<c.heap.size)) p u) d rs):=ms (all_ok K n) i a h e b
end
def RowFor(P:Program)(f:Nat)(e:Array Value->Sem Value):Prop:=∃fn,P.funcs[f]?=some fn/\(fn.name== "runtime.NumGoroutine")=false/\fn.body.isNone=true/\Go.Extern.findNext fn=none/\Go.Extern.find fn=some e
theorem RowFor.does{P:Program}{f:Nat}{e:Array Value->Sem Value}(h:RowFor P f e){us:Array Value}{w w':World}{v:Value}{R:Value->World->Prop}(hrun:(e us).run P w=.ok v w')(hR:R v w'):Does P f us w R:=by obtain⟨fn,h1,h2,h3,h4,h5⟩:=h;refine .inr ⟨v,w',?_,hR⟩;simp only[beq_eq_false_iff_ne,ne_eq]at h2;have h3:=Option.isNone_iff_eq_none.1 h3;simp[Go.callFunc,h1,h2,h3,h4,h5,hrun,Go.mark,Sem.run]
theorem ixB_eq(s:List UInt8)(c:UInt8):Go.Lib.indexByte s c=ixB s c:=by induction s with|nil=>rfl|cons b l d=>simp[Go.Lib.indexByte,ixB,d]
section


variable{Γ:Ctx}{N:Names}{P:Program}{f:Nat}
theorem AH(h:RowFor P (N.fn f) Go.Extern.BytealgIndexByte.indexByte):BN Γ N P f pT:=by
 intro ps rs hg w S us hS hgl ha;unfold pT at hg;split at hg;rotate_left;·cases hg
 rename_i s c;simp only[Option.some.injEq]at hg;subst hg;match us,ha with
 |[u1,u2],⟨h1,h2,_⟩=>rw[h1.str_inv,h2.int_inv];rw[<-ixB_eq];exact h.does (w':=w) (Go.Lib.run_indexByteString ⟨s.toArray⟩ c w) ⟨[.int .i64 (Go.Lib.indexByte s c.toNat.toUInt8)],S,rfl,.refl w,λ_ h=>h,hS,λ_ h=>.inl h,.int _ _,trivial⟩
theorem NK(h:RowFor P (N.fn f) Go.Extern.BytealgCount.count):BN Γ N P f My:=by
 intro ps rs hg w S us hS hgl ha;unfold My at hg;split at hg;rotate_left;·cases hg
 rename_i s c;simp only[Option.some.injEq]at hg;subst hg;match us,ha with
 |[u1,u2],⟨h1,h2,_⟩=>rw[h1.str_inv,h2.int_inv];exact h.does (w':=w) (Go.Lib.run_countString ⟨s.toArray⟩ c w) ⟨[.int .i64 (s.count c.toNat.toUInt8:Nat)],S,rfl,.refl w,λ_ h=>h,hS,λ_ h=>.inl h,.int _ _,trivial⟩
end
end Ab
namespace Ab
open Go (IntKind BinOp UnOp World Value Addr Obj undef maxLen Program TypeId Oper Op Operand Act Sem Next Result execOp Builtin Calls Ending Exit)
open Go.RowKit
structure JoinOk(P:Program)(f:Nat):Prop where
 enters:Enters P f
 none:∀(a:Option Addr)(c:Nat)(sep:ByteArray)(w:World),Calls P f #[.slice a 0 c,.string sep] w λe w'=>e=.returned (.string ⟨#[]⟩)/\w'=w
 some:∀(bk o c:Nat)(xs:List ByteArray)(sep:ByteArray)(w:World),(∀(j:Nat)x,xs[j]?=some x->w.cell? ⟨bk,o+j,.none⟩=.some (.string x))->bk<w.heap.size->xs.length<=140737488355328->xs.length<=c->(Go.Lib.join (xs.map (·.data.toList)) sep.data.toList).length<=140737488355328->Calls P f #[.slice (.some ⟨bk,o,.none⟩) xs.length c,.string sep] w λe w'=>e=.returned (.string ⟨(Go.Lib.join (xs.map (·.data.toList)) sep.data.toList).toArray⟩)/\Below w.heap.size w w'
theorem vN(c:List UInt8):∀l:List (List UInt8),Go.Lib.join l c=bI c l
 |[]=>rfl|[a]=>by simp[Go.Lib.join,bI,]|a::b::r=>by have :=vN c (b::r);simp[Go.Lib.join,bI,]at this⊢;grind
theorem wT:∀{xs:List PV}{l:List (List UInt8)},xv xs=some l->xs=l.map .str
 |[],l,h=>by simp[xv,]at h;grind|x::xs,l,h=>by
  cases x<;>simp only[xv]at h<;>try cases h
  rename_i s;obtain⟨r,a,rfl⟩:=Option.map_eq_some_iff.1 h;rw[wT a];rfl
theorem Uv{Γ:Ctx}{N:Names}{P:Program}{f:Nat}(h:JoinOk P (N.fn f)):BN Γ N P f TW:=by
 intro ps rs hg w S us hS hgl ha;unfold TW at hg;split at hg;rotate_left;·grind
 rename_i kk xs sep;split at hg;rotate_left;·grind
 rename_i l hl;simp[]at hg;obtain⟨⟨hb1,hb2⟩,rfl⟩:=hg;have hx:=wT hl;match us,ha with
 |[u1,u2],⟨h1,h2,_⟩=>rw[h2.str_inv];generalize hxs:xs=xs' at h1;cases h1 with|sl _ _ _ a cap ws k1 k2 k3 k4 k5 k6 k7 k8=>
  subst hxs;refine .inl ⟨h.enters _ _,?_⟩;by_cases hne:xs=[]
  ·subst hne;have :l=[]:=by grind
   subst this;refine(h.none a cap ⟨sep.toArray⟩ w).mono ?_;rintro e w'⟨rfl,rfl⟩;exact⟨_,rfl,[.string ⟨#[]⟩],S,rfl,.refl _,λ_ h=>h,hS,λ_ h=>.inl h,.str [],trivial⟩
  ·obtain⟨ad,rfl,hs⟩:=k6 hne;let⟨bk,o,sp⟩:=ad;have cell:∀(j:Nat)s,l[j]?=some s->w.cell? ((⟨bk,o,sp⟩:Addr).add j)=some (.string ⟨s.toArray⟩):=by
    intro j s hj;have e1:xs[j]?=some (.str s):=by grind
    have :=k7 _ rfl j (.str s) 0 (.str s) e1 rfl;rw[(k8 j (.str s) 0 (.str s) e1 rfl).str_inv]at this;grind
   have hsp:sp=none:=by cases l with|nil=>grind|cons s r=>have :=cell 0 s rfl;simp[Addr.add,]at this;unfold World.cell? at this;cases sp with|none=>rfl|some x=>grind
   subst hsp;have hlen:xs.length=(l.map λs=>(⟨s.toArray⟩:ByteArray)).length:=by grind
   have hmap:(l.map λs=>(⟨s.toArray⟩:ByteArray)).map (·.data.toList)=l:=by rw[List.map_map];exact List.map_id l
   rw[hlen];refine(h.some bk o cap (l.map λs=>⟨s.toArray⟩) ⟨sep.toArray⟩ w ?_ (hS _ hs) ?_ ?_ ?_).mono ?_;·intro j x hj;rw[List.getElem?_map,Option.map_eq_some_iff]at hj;obtain⟨s,hs,rfl⟩:=hj;have :=cell j s hs;unfold Addr.add at this;split at this;all_goals simp[*]
   ·grind
   ·grind
   ·rw[hmap,vN];grind
   ·rintro e w'⟨rfl,hw⟩;rw[hmap,vN];exact⟨_,rfl,[.string ⟨(bI sep l).toArray⟩],S,rfl,⟨hw.os,hw.tape,hw.output,hw.size,λg hg=>hw.block g hg⟩,λ_ h=>h,λg hg=>Nat.lt_of_lt_of_le (hS g hg) hw.size,λ_ h=>.inl h,.str _,trivial⟩
end Ab
namespace Ab
open Go (IntKind BinOp UnOp World Value Addr Obj undef maxLen Program TypeId Oper Op Operand Act Sem Next Result execOp Builtin Calls Ending Exit)
open Go.RowKit
theorem tR(c a:UInt8)(l:List UInt8):Go.Lib.index (c::l) [a]=if c=a then 0 else if Go.Lib.index l [a]==-1 then-1 else Go.Lib.index l [a]+1:=by
 by_cases h:c=a;·subst h;simp[Go.Lib.index,]
 ·rw[if_neg h];simp[Go.Lib.index,];grind
theorem oD(a b:UInt8):∀(s:List UInt8)(k:Nat),s.count a<=k->Go.Lib.replaceK [a] [b] k s=fK a b s
 |[],0,_=>rfl|[],k+1,_=>by rfl|c::l,k,j=>by
  by_cases h:c=a;·subst h;cases k with|zero=>grind|succ k=>have d:=oD c b l k (by grind);rw[Go.Lib.replaceK_hit [c] [b] k (c::l) 0 (by rw[tR];simp)];simp[d];simp[fK]
  ·have g:l.count a<=k:=by grind
   have d:=oD a b l k g;have e:Go.Lib.replaceK [a] [b] k (c::l)=c::Go.Lib.replaceK [a] [b] k l:=by cases k with|zero=>rfl|succ k=>
     rcases Go.Lib.index_spec l [a]with⟨hi,_⟩|⟨i,hi,_⟩;·simp only[Go.Lib.replaceK,tR,if_neg h,hi];simp
     ·rw[Go.Lib.replaceK_hit [a] [b] k (c::l) (i+1) (by rw[tR,if_neg h,hi,if_neg (by simp)];simp),Go.Lib.replaceK_hit [a] [b] k l i hi];rfl
   rw[e,d];simp[fK,h]
theorem AU(a b:UInt8)(s:List UInt8):Go.Lib.replaceAll s [a] [b]=fK a b s:=by
 unfold Go.Lib.replaceAll Go.Lib.replace;by_cases h:a=b
 ·subst h;rw[if_pos (by simp)];unfold fK;conv=>lhs;rw[<-List.map_id s]
  apply List.map_congr_left;simp
 ·rw[if_neg (by grind)];have e:Go.Lib.replaceNum s [a] (-1)=s.count a:=by unfold Go.Lib.replaceNum;rw[if_pos (.inl (by omega)),Go.Lib.count_one]
  rw[e];exact oD a b s _ (Nat.le_refl _)
structure ReplOk(P:Program)(f g:Nat):Prop where
 enters:Enters P f
 all:∀(s old new:ByteArray)(m:Int)(w:World),s.size<4294967281->w.cell? ⟨g,0,none⟩=some (.int .i64 m)->1<=old.size->s.size+Go.Lib.countB s old*new.size<=140737488355328->Calls P f #[.string s,.string old,.string new] w λe w'=>e=.returned (.string ⟨(Go.Lib.replaceAll s.data.toList old.data.toList new.data.toList).toArray⟩)/\Below w.heap.size w w'
theorem US{Γ:Ctx}{N:Names}{P:Program}{f gv:Nat}(j:gv∈Γ.gi)(h:ReplOk P (N.fn f) (N.gl gv)):BN Γ N P f IJ:=by
 intro ps rs c w S us n i p;unfold IJ at c;split at c;rotate_left;·grind
 rename_i s a b;simp[]at c;obtain⟨z,rfl⟩:=c;match us,p with
 |[x,v,B],⟨l,k,r,_⟩=>
  rw[l.str_inv,k.str_inv,r.str_inv];let⟨_,m,o⟩:=i.ints gv j;have A:(⟨s.toArray⟩:ByteArray).size=s.length:=by rfl
  have t:=Go.Lib.count_le s [a];refine .inl ⟨h.enters _ _,(h.all ⟨s.toArray⟩ ⟨#[a]⟩ ⟨#[b]⟩ m w (by grind) o (by simp[ByteArray.size]) ?_).mono ?_⟩
  ·have u:(⟨#[b]⟩:ByteArray).size=1:=by rfl
   grind
  ·rintro e C⟨rfl,d⟩;have q:=AU a b s;rw[q];exact⟨_,rfl,[.string ⟨(fK a b s).toArray⟩],S,rfl,⟨d.os,d.tape,d.output,d.size,λg c=>d.block g c⟩,λ_ h=>h,λg c=>Nat.lt_of_lt_of_le (n g c) d.size,λ_ h=>.inl h,.str _,trivial⟩
structure BJoinOk(P:Program)(f:Nat):Prop where
 enters:Enters P f
 one:∀(b o c:Nat)(ad0:Addr)(c0:Nat)(l0:List UInt8)(sv:Value)(w:World),w.cell? ⟨b,o,none⟩=some (.slice (some ad0) l0.length c0)->(∀(i:Nat)x,l0[i]?=some x->w.cell? (ad0.add i)=some (.int .u8 (x.toNat:Int)))->0<l0.length->l0.length<=140737488355328->Calls P f #[.slice (some ⟨b,o,none⟩) 1 c,sv] w λe w'=>∃v',e=.returned v'/\Go.Lib.FreshBytes w.heap.size w' v' l0/\Below w.heap.size w w'
 oneE:∀(b o c:Nat)(p0:Option Addr)(c0:Nat)(sv:Value)(w:World),w.cell? ⟨b,o,none⟩=some (.slice p0 0 c0)->Calls P f #[.slice (some ⟨b,o,none⟩) 1 c,sv] w λe w'=>e=.returned (.slice none 0 0)/\w'=w
 many:∀(b o n c:Nat)(vs:List Value)(ls:List (List UInt8))(sv:Value)(sep:List UInt8)(w:World),ls.length=n->2<=n->Go.Lib.PartsAt w ⟨b,o,none⟩ vs ls->n<=c->Go.Lib.HoldsBytes w sv sep->n<=140737488355328->Go.Lib.lens ls+sep.length*(n-1)<=140737488355328->Calls P f #[.slice (some ⟨b,o,none⟩) n c,sv] w λe w'=>∃v',e=.returned v'/\Go.Lib.FreshBytes w.heap.size w' v' (Go.Lib.join ls sep)/\Below w.heap.size w w'
theorem zZ:∀{xs:List PV}{l:List UInt8},xA xs=some l->xs=ao l
 |[],l,h=>by simp[xA,]at h;subst h;rfl|x::xs,l,h=>by
  unfold xA at h;split at h;·grind
  ·rename_i n r e;cases e;simp[]at h;obtain⟨⟨f,d⟩,c,b,rfl⟩:=h;rw[zZ b];simp only[ao,List.map_cons,List.cons.injEq,and_true,PV.int.injEq,true_and];rw[UInt8.toNat_ofNat'];omega
  grind
theorem wW:∀{xs:List PV}{a:List (List UInt8)},wQ xs=some a->xs.length=a.length/\∀(i:Nat)l,a[i]?=some l->∃k,xs[i]?=some (.sl k 1 (ao l))
 |[],a,h=>by simp[wQ,]at h;grind|x::xs,a,h=>by
  unfold wQ at h;split at h;·grind
  ·rename_i k ys r e;cases e;split at h;rotate_left;·grind
   rename_i l d;obtain⟨f,b,rfl⟩:=Option.map_eq_some_iff.1 h;let⟨j,m⟩:=wW b;refine⟨by grind,λi g hi=>?_⟩;cases i with|zero=>simp[]at hi;subst hi;exact⟨k,by rw[zZ d];rfl⟩|succ i=>grind
  grind
theorem GQ:∀c:List (List UInt8),bI [] c=c.flatten|[]=>rfl|[a]=>by simp[bI]|a::b::r=>by simp only[bI,GQ (b::r)];simp
theorem Gc(a:List (List UInt8)):Go.Lib.lens a=a.flatten.length:=by induction a with|nil=>rfl|cons l r b=>rw[Go.Lib.lens_cons,b];simp
theorem IL{ν:Nat->Nat}{w d:World}{v:Value}{l:List UInt8}{S:Nat->Prop}(F:Go.Lib.FreshBytes w.heap.size d v l)(J:∀g,S g->g<w.heap.size)(B:w.heap.size<=d.heap.size):∃q,(∀g,S g->q g)/\(∀g,q g->g<d.heap.size)/\(∀g,q g->S g\/w.heap.size<=g)/\RelP ν d q (.sl .any 1 (ao l)) v:=by
 obtain⟨g,cap,A,rfl,K,C,o,D,r,I,k,_⟩:=F;have y:(ao l).length=l.length:=by simp[ao]
 refine⟨λb=>S b\/(b=g/\g<d.heap.size),λ_ h=>.inl h,λb h=>?_,λb h=>?_,?_⟩;·grind
 ·grind
 ·have N:=RelP.sl (ν:=ν) (w:=d) (S:=λb=>S b\/(b=g/\g<d.heap.size)) .any 1 (ao l) (some ⟨g,0,none⟩) cap (λi _=>.int .u8 (A.getD i 0)) (by grind) o (λx m=>by obtain⟨b,_,rfl⟩:=List.mem_map.1 m;simp[PV.cells,PV.one]) (by simp) (by simp) (λH=>⟨_,rfl,.inr ⟨rfl,by
    have n:0<cap:=by grind
    have :=k 0 n;unfold World.cell? at this;grind⟩⟩) (λL t i x j c m p=>by
    cases t;have hi:i<l.length:=by grind
    have s:j=0:=by have :=(List.getElem?_eq_some_iff.1 p).1;obtain⟨b,_,rfl⟩:=List.mem_map.1 (List.mem_of_getElem? m);simpa[PV.cells]using this
    subst s;rw[Go.Addr.add_lit];grind) (λi x j c m p=>by
    have hi:i<l.length:=by grind
    simp[ao,]at m;obtain⟨b,e,rfl⟩:=m;have s:j=0:=by have :=(List.getElem?_eq_some_iff.1 p).1;simpa[PV.cells]using this
    subst s;simp[PV.cells,]at p;subst p;have G:(A.getD i 0)=(b.toNat:Int):=by rw[<-I]at e;simp only[Go.Lib.bytesOf,List.getElem?_map,Option.map_eq_some_iff]at e;let⟨z,f,u⟩:=e;rw[List.getElem?_take,if_pos hi]at f;have E:=r z (List.mem_of_getElem? f);rw[List.getD_eq_getElem?_getD,f,Option.getD_some,<-u,UInt8.toNat_ofNat'];omega
    rw[G];exact .int _ _);grind
theorem Ow{Γ:Ctx}{N:Names}{P:Program}{f:Nat}(h:BJoinOk P (N.fn f)):BN Γ N P f An:=by
 intro ps rs t w S us hS hgl ha;unfold An at t;split at t;rotate_left;·grind
 rename_i kk xs;split at t;rotate_left;·grind
 rename_i m hl;simp[]at t;obtain⟨⟨hb1,hb2,B⟩,rfl⟩:=t;let⟨C,W⟩:=wW hl;match us,ha with
 |[u1,u2],⟨h1,h2,_⟩=>
  have e2:u2=.slice none 0 0:=by cases h2 with|sl _ _ _ a cap ws k1 k2 k3 k4 k5 k6 k7 k8=>grind
  subst e2;generalize Q:xs=xs' at h1;cases h1 with|sl _ _ _ a cap ws k1 k2 k3 k4 k5 k6 k7 k8=>
  subst Q;have O:xs≠[]:=by grind
  obtain⟨I,rfl,hs⟩:=k6 O;let⟨F,o,T⟩:=I;have d:∀(i:Nat)l,m[i]?=some l->w.cell? ((⟨F,o,T⟩:Addr).add i)=some (ws i 0)/\∃k,RelP N.fn w S (.sl k 1 (ao l)) (ws i 0):=by intro i l hi;let⟨k,D⟩:=W i l hi;have :=k7 _ rfl i _ 0 _ D rfl;simp[]at this;exact⟨this,k,k8 i _ 0 _ D rfl⟩
  have E:∀(i:Nat)l,m[i]?=some l->Go.Lib.HoldsBytes w (ws i 0) l:=by intro i l hi;let⟨_,k,hr⟩:=d i l hi;generalize ws i 0=u at hr;cases hr with|sl _ _ _ a c us q1 q2 q3 q4 q5 q6 q7 q8=>
    have hlen:(ao l).length=l.length:=by simp[ao]
    refine⟨a,c,by grind,λea=>?_,λI R j x G=>?_⟩;·grind
    ·have H:(ao l)[j]?=some (.int .u8 x.toNat):=by simp[ao,G]
     have :=q7 I R j _ 0 _ H rfl;rw[(q8 j _ 0 _ H rfl).int_inv]at this;grind
  have J:T=none:=by match m,B with
   |l::r,_=>have :=(d 0 l rfl).1;simp[Addr.add,]at this;unfold World.cell? at this;cases T with|none=>rfl|some x=>grind
  subst J;refine .inl ⟨h.enters _ _,?_⟩;have K:∀(v:Value)(q:World),Go.Lib.FreshBytes w.heap.size q v m.flatten->Below w.heap.size w q->∃vs y,v=iK vs/\Grows w q/\(∀g,S g->y g)/\(∀g,y g->g<q.heap.size)/\(∀g,y g->S g\/w.heap.size<=g)/\All2 (λu p=>RelP N.fn q y p u) vs [.sl .any 1 (ao m.flatten)]:=by intro v q U s;let⟨y,s1,s2,s3,s4⟩:=IL (ν:=N.fn) U hS s.size;exact⟨[v],y,rfl,⟨s.os,s.tape,s.output,s.size,λg t=>s.block g t⟩,s1,s2,s3,s4,trivial⟩
  rcases Nat.lt_or_ge 1 m.length with X|X
  ·rw[C];refine(h.many F o m.length cap ((List.range m.length).map λi=>ws i 0) m _ [] w rfl X ⟨by simp,λi v Z=>?_,λi v l Z hi=>?_⟩ (by grind) ⟨none,0,rfl,λ_=>rfl,by simp⟩ (by omega) (by rw[Gc];grind)).mono ?_;·rw[List.getElem?_map,Option.map_eq_some_iff]at Z;obtain⟨j,G,rfl⟩:=Z;let⟨L,G⟩:=List.getElem?_eq_some_iff.1 G;simp[]at L;simp_all
   ·grind
   ·rintro e q⟨v,rfl,U,s⟩;rw[vN,GQ]at U;simp_all
  ·obtain⟨l,rfl⟩:∃l,m=[l]:=by match m,B,X with|[l],_,_=>simp
   ·have H:=C;rw[H];have V:[l].flatten=l:=by simp
    let⟨n,_⟩:=d 0 l rfl;let⟨p,c0,M,hp0,Y⟩:=E 0 l rfl;simp[Addr.add,]at n;rw[M]at n;rw[V]at K⊢;by_cases h0:l=[];·subst h0;refine(h.oneE F o cap p c0 _ w n).mono ?_;rintro e q⟨rfl,rfl⟩;exact⟨_,rfl,[.slice none 0 0],S,rfl,.refl _,λ_ h=>h,hS,λ_ h=>.inl h,.sl .any 1 [] none 0 (λ_ _=>undef) (Nat.le_refl _) (Nat.zero_le _) (by simp) (by simp) (by simp) (by simp) (by simp) (by simp),trivial⟩
    ·cases p with|none=>grind|some A=>have z:=List.length_pos_iff.2 h0;refine(h.one F o cap A c0 l _ w n (λi x hi=>Y A rfl i x hi) z (by grind)).mono ?_;simp_all
structure MCloneOk(P:Program)(f:Nat):Prop where
 enters:Enters P f
 some:∀(b:Nat)(es:Array Go.MapEntry)(clock:Nat)(w:World),w.heap[b]?=some (.map es clock)->Calls P f #[.map (some b)] w λe w'=>e=.returned (.map (some w.heap.size))/\w'=w.alloc (.map es clock)none:∀(w:World),Calls P f #[.map none] w λe w'=>e=.returned (.map none)/\w'=w
theorem Ty{Γ:Ctx}{N:Names}{P:Program}{f:Nat}(h:MCloneOk P (N.fn f)):HiOk Γ N P f Ed:=by
 intro cal _ args H rs H' d w S μ us l W K;simp[Ed,II]at d;split at d;·rename_i id;let⟨G,m,J⟩:=Option.map_eq_some_iff.1 d;simp[]at J;obtain⟨rfl,rfl⟩:=J;match us,K with
  |[u],⟨q,_⟩=>
  obtain⟨g,rfl,hl,z⟩:=q.mp_inv;have L:=eZ m;have O:=z _ L;have A:=l.blk id _ L;refine .inl ⟨h.enters _ _,?_⟩;let⟨g',c,a,M,y,Z,e3⟩:=l.map_of m;rw[O]at M;cases M;refine(h.some g c a w y).mono ?_;rintro e X⟨rfl,rfl⟩;have i:=Grows.alloc w (.map c a);have b:Step N.fn w S μ H (w.alloc (.map c a)) S (upd μ H.length (.pointer (some ⟨w.heap.size,0,none⟩))) (H++[.box (ak G)]):=by
   refine Step.push l i ⟨w.heap.size,upd_same,.inr (.inr ?_)⟩ (λg d=>by simp[aO,]at d;omega);obtain⟨g2,F,⟨cs,t,B,C,E,D⟩|⟨s,pos,B,C⟩|⟨n,Q,r,B,C,o,E,D⟩⟩:=A;·grind
   ·grind
   ·rw[O]at F;cases F;rw[C]at y;cases y;have U:n=G:=by have :=congrArg (λx=>qR (x.drop 2)) B;simp[ak,uv,]at this;grind
    subst U;refine⟨n,_,_,rfl,Go.heap_alloc_new w _,o,E,λj k v hj=>?_⟩;let⟨e,V,R,Y,T⟩:=D j k v hj;exact⟨e,V,R.keep (λ_ h=>h) (l.keepS i),Y,T.keep (λ_ h=>h) (l.keepS i) iu⟩
  exact⟨_,rfl,[.map (some w.heap.size)],S,_,rfl,b.run,b.moves,.mp _ w.heap.size _ (by simp) (λ_ _=>upd_same) rfl,trivial⟩
 ·simp[]at d;obtain⟨rfl,rfl⟩:=d;match us,K with
  |[u],⟨q,_⟩=>
  have e:u=.map Option.none:=by cases q with|p _ _ q=>cases q;rfl
  subst e;refine .inl ⟨h.enters _ _,(h.none w).mono ?_⟩;rintro e X⟨rfl,rfl⟩;exact⟨_,rfl,[.map Option.none],S,μ,rfl,.refl l,.refl,.p _ _ .nilmap,trivial⟩
 grind
end Ab
