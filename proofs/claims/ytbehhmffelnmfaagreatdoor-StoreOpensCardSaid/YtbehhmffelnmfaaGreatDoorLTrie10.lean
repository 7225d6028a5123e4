import Derived.Test.YtbehhmffelnmfaaGreatDoorLGlob4
import Derived.Test.YtbehhmffelnmfaaGreatDoorPGlob
import Derived.Test.YtbehhmffelnmfaaGreatDoorAbZ7
set_option linter.all false
namespace Ab
open Go (IntKind)
def okC:List UInt8->Bool|a::b::c::r=>if b=45 then(if c<a then false else okC r)else okC (b::c::r)|_=>true
theorem xW:∀{l:List UInt8}{acc:List Bool},(dI l acc).isSome=okC l
 |[],_=>rfl|[a],_=>rfl|[a,b],_=>rfl|a::b::c::r,acc=>by
  rw[LT,okC];split
  ·split;·rfl
   ·exact xW
  ·exact xW
theorem Gx{s:List UInt8}{i e:Nat}(h:i+2<e)(a:e<=s.length):(s.take e).drop i=s.getD i 0::s.getD (i+1) 0::s.getD (i+2) 0::(s.take e).drop (i+3):=by rw[drop3 (by grind)];grind
theorem KK{s:List UInt8}{i e:Nat}(h:i<e)(b:e<=s.length):(s.take e).drop i=s.getD i 0::(s.take e).drop (i+1):=by rw[drop1 (by grind)];grind
theorem TE{a:UInt8}{r:List UInt8}(h:r.length<2):okC (a::r)=okC r:=by match r,h with|[],_=>rfl|[b],_=>rfl
theorem AL(s:List UInt8)(e:Nat)(g:e<=s.length)(q:s.length<900000000)(Q:Out->Prop):∀(n i:Nat),e<=i+n->i<=e->(okC ((s.take e).drop i)=false->Q (.ret,[(4,.p (.int .i64 (-1)))],[]))->(okC ((s.take e).drop i)=true->Q (.nrm,[(5,.p (.int .i64 (e:Int)))],[]))->Wp Γ gu [(0,.p (.str s)),(5,.p (.int .i64 (e:Int))),(6,.p (.int .i64 (i:Int)))] [] (aW [5] 2 Q):=by intro n;induction n with
 |zero=>
  intro i o hi b a;obtain rfl:i=e:=by omega
  rw[aa (L:=gu) rfl];simp(disch:=first|exact Dq|fail)only[go_sem];exact a (by rw[List.drop_eq_nil_of_le (by grind)];rfl)|succ n r=>
  intro i o hi b a;by_cases d:i<e
  ·by_cases l:i+2<e
   ·rw[Gx l g,okC]at b a;by_cases f:byt s (i+1)=45
    ·have c:=(aR 45).1 f;rw[if_pos c]at b a;by_cases k:byt s (i+2)<byt s i;·rw[if_pos (byt_lt_iff.1 k)]at b;rw[aa (L:=gu) rfl];simp(disch:=first|exact Dq|fail)only[go_sem,tn1,tn2];grind
     ·rw[if_neg (λh=>k (byt_lt_iff.2 h))]at b a;rw[aa (L:=gu) rfl];simp(disch:=first|exact Dq|fail)only[go_sem,tn1,tn2];grind
    ·have c:=λh=>f ((aR 45).2 h);rw[if_neg c]at b a;have m:s.getD (i+1) 0::s.getD (i+2) 0::(s.take e).drop (i+3)=(s.take e).drop (i+1):=by have :=Gx l g;rw[KK d g]at this;grind
     rw[m]at b a;rw[aa (L:=gu) rfl];simp(disch:=first|exact Dq|fail)only[go_sem,tn1];grind
   ·rw[KK d g,TE (by grind)]at b a;rw[aa (L:=gu) rfl];simp(disch:=first|exact Dq|fail)only[go_sem];grind
  grind
def oA(s:List UInt8)(i:Nat)(c:UInt8):Nat:=if ixB (s.drop i) c<0 then s.length else i+(ixB (s.drop i) c).toNat
theorem LQ{b c:UInt8}{l:List UInt8}:ixB (b::l) c=if b=c then 0 else if ixB l c=-1 then-1 else ixB l c+1:=by simp[ixB,]
theorem PY{s:List UInt8}{i:Nat}{c:UInt8}(h:i<s.length)(a:s.getD i 0=c):oA s i c=i:=by unfold oA;rw[drop1 h,LQ,if_pos a];rfl
theorem PG{s:List UInt8}{i:Nat}{c:UInt8}(h:i<s.length)(a:s.getD i 0≠c):oA s i c=oA s (i+1) c:=by unfold oA;rw[drop1 h,LQ,if_neg a];grind
theorem endAt_le{s:List UInt8}{i:Nat}{c:UInt8}(h:i<=s.length):i<=oA s i c/\oA s i c<=s.length:=by unfold oA;have :=@uD (s.drop i) c;grind
theorem AG(s:List UInt8)(a:Nat)(j:s.length<900000000)(Q:Out->Prop):∀(n i:Nat),s.length<=i+n->i<=s.length->Q (.nrm,[(0,.p (.str s)),(1,.p (.int .i64 (a:Int))),(5,.p (.int .i64 (oA s i 93:Int)))],[])->Wp Γ jh [(0,.p (.str s)),(1,.p (.int .i64 (a:Int))),(5,.p (.int .i64 (i:Int)))] [] (aW [0,1,5] 0 Q):=by
 have g:oA s s.length 93=s.length:=by unfold oA;rw[List.drop_length];rfl
 intro n;induction n with|zero=>
  intro i f hi d;obtain rfl:i=s.length:=by omega
  rw[g]at d;rw[aa (L:=jh) rfl];simp(disch:=first|exact Dq|fail)only[go_sem];grind|succ n h=>
  intro i f hi d;by_cases c:i<s.length
  ·by_cases e:byt s i=93;·rw[PY c ((aR 93).1 e)]at d;rw[aa (L:=jh) rfl];simp(disch:=first|exact Dq|fail)only[go_sem,e,ne_eq,not_true_eq_false];grind
   ·rw[PG c (kn (b:=93) e)]at d;rw[aa (L:=jh) rfl];simp(disch:=first|exact Dq|fail)only[go_sem];grind
  grind
def Eo(s:List UInt8)(i:Nat):Int:=if s.length<=oA s (i+1) 93 then-1 else if oA s (i+1) 93=i+1 then-1 else if okC ((s.take (oA s (i+1) 93)).drop (i+1))=true then(oA s (i+1) 93:Int)else-1
theorem zx(s:List UInt8)(b:s.length<900000000)(i:Nat)(hi:i<s.length):res Γ 58 [.str s,.int .i64 (i:Int)]=some [.int .i64 (Eo s i)]:=by
 have f:=endAt_le (s:=s) (i:=i+1) (c:=93) (by omega);refine ae (fn:=wi) rfl rfl ?_;simp(disch:=first|exact Dq|fail)only[go_sem,wi];refine AG s i b _ s.length (i+1) (by omega) (by omega) ?_;unfold Eo;generalize oA s (i+1) 93=e at*;by_cases d:s.length<=e;·rw[if_pos d];simp(disch:=first|exact Dq|fail)only[go_sem]
 ·rw[if_neg d];by_cases a:e=i+1;·rw[if_pos a];subst a;simp(disch:=first|exact Dq|fail)only[go_sem]
  ·rw[if_neg a];simp(disch:=first|exact Dq|fail)only[go_sem];refine AL s e f.2 b _ e (i+1) (by omega) (by omega) (λh=>?_) (λh=>?_);·simp(disch:=first|exact Dq|fail)only[go_sem,h]
   ·simp(disch:=first|exact Dq|fail)only[go_sem,h]
theorem inF_3{a b c x:UInt8}{r:List UInt8}:inF (a::b::c::r) x=if b=45 then((decide (a<=x)&&decide (x<=c))||inF r x)else(a==x||inF (b::c::r) x):=by rfl
theorem TQ{a x:UInt8}{r:List UInt8}(h:r.length<2):inF (a::r) x=(a==x||inF r x):=by match r,h with|[],_=>simp[inF]|[b],_=>rfl
theorem Ig(s:List UInt8)(e:Nat)(l:e<=s.length)(hs:s.length<900000000)(c:UInt8)(Q:Out->Prop):∀(n i:Nat),e<=i+n->i<=e->(inF ((s.take e).drop i) c=true->Q (.ret,[(8,.p (.bool true))],[]))->(inF ((s.take e).drop i) c=false->Q (.nrm,[],[]))->Wp Γ gZ [(0,.p (.str s)),(2,.p (.int .i64 (e:Int))),(3,.p (.int .u8 (c.toNat:Int))),(9,.p (.int .i64 (i:Int)))] [] (aW [] 0 Q):=by
 have done:∀i,¬i<e->inF ((s.take e).drop i) c=false:=λi hi=>by rw[List.drop_eq_nil_of_le (by grind)];rfl
 have t:∀i,(s.getD i 0==c)=true↔byt s i=(c.toNat:Int):=λi=>by rw[aR,beq_iff_eq]
 have q:∀i,s.getD i 0<=c↔byt s i<=(c.toNat:Int):=λi=>by rw[UInt8.le_iff_toNat_le];unfold byt;omega
 have k:∀i,c<=s.getD i 0↔(c.toNat:Int)<=byt s i:=λi=>by grind
 intro n;induction n with|zero=>
  intro i hn hi b g;obtain rfl:i=e:=by omega
  rw[aa (L:=gZ) rfl];simp(disch:=first|exact Dq|fail)only[go_sem];grind|succ n ih=>
  intro i hn hi b g;by_cases j:i<e
  ·have m:inF ((s.take e).drop i) c=(s.getD i 0==c||inF ((s.take e).drop (i+1)) c)->¬(i+2<e/\byt s (i+1)=45)->Wp Γ gZ [(0,.p (.str s)),(2,.p (.int .i64 (e:Int))),(3,.p (.int .u8 (c.toNat:Int))),(9,.p (.int .i64 (i:Int)))] [] (aW [] 0 Q):=by
    intro ho o;rw[ho]at b g;by_cases hb:byt s i=(c.toNat:Int)
    ·rw[(t i).2 hb]at b;by_cases d:i+2<e;·have a:¬byt s (i+1)=45:=λh=>o ⟨d,h⟩;rw[aa (L:=gZ) rfl];simp(disch:=first|exact Dq|fail)only[go_sem,tn1];grind
     ·rw[aa (L:=gZ) rfl];simp(disch:=first|exact Dq|fail)only[go_sem];grind
    ·have r:(s.getD i 0==c)=false:=by grind
     rw[r,Bool.false_or]at b g;by_cases d:i+2<e;·have a:¬byt s (i+1)=45:=λh=>o ⟨d,h⟩;rw[aa (L:=gZ) rfl];simp(disch:=first|exact Dq|fail)only[go_sem,tn1];grind
     ·rw[aa (L:=gZ) rfl];simp(disch:=first|exact Dq|fail)only[go_sem];grind
   by_cases d:i+2<e
   ·by_cases a:byt s (i+1)=45
    ·have f:s.getD (i+1) 0=45:=(aR 45).1 a;rw[Gx d l,inF_3,if_pos f]at b g;by_cases hx:byt s i<=(c.toNat:Int)
     ·rw[decide_eq_true ((q i).2 hx),Bool.true_and]at b g;by_cases hy:(c.toNat:Int)<=byt s (i+2);·rw[decide_eq_true ((k (i+2)).2 hy),Bool.true_or]at b;rw[aa (L:=gZ) rfl];simp(disch:=first|exact Dq|fail)only[go_sem,tn1,tn2];grind
      ·rw[decide_eq_false (λh=>hy ((k (i+2)).1 h)),Bool.false_or]at b g;rw[aa (L:=gZ) rfl];simp(disch:=first|exact Dq|fail)only[go_sem,tn1,tn2];grind
     ·rw[decide_eq_false (λh=>hx ((q i).1 h)),Bool.false_and,Bool.false_or]at b g;rw[aa (L:=gZ) rfl];simp(disch:=first|exact Dq|fail)only[go_sem,tn1];grind
    ·have f:¬s.getD (i+1) 0=45:=λh=>a ((aR 45).2 h);refine m ?_ (λh=>a h.2);have ed:s.getD (i+1) 0::s.getD (i+2) 0::(s.take e).drop (i+3)=(s.take e).drop (i+1):=by have :=Gx d l;rw[KK j l]at this;grind
     rw[Gx d l,inF_3,if_neg f,ed]
   ·refine m ?_ (λh=>d h.1);rw[KK j l,TQ (by grind)]
  grind
theorem res_r9in(s:List UInt8)(e:Nat)(d:e<=s.length)(b:s.length<900000000)(c:UInt8)(i:Nat)(hi:i<e):res Γ 59 [.str s,.int .i64 (i:Int),.int .i64 (e:Int),.int .u8 (c.toNat:Int)]=some [.bool (inF ((s.take e).drop (i+1)) c)]:=by
 refine ae (fn:=r9_in) rfl rfl ?_;simp(disch:=first|exact Dq|fail)only[go_sem,r9_in];refine Ig s e d b c _ e (i+1) (by omega) (by omega) (λh=>?_) (λh=>?_);·simp(disch:=first|exact Dq|fail)only[go_sem,h]
 ·simp(disch:=first|exact Dq|fail)only[go_sem,h]
theorem xK{s:List UInt8}{i:Nat}(hi:i<s.length):(Eo s i=-1/\(ixB (s.drop (i+1)) 93<=0\/dI ((s.drop (i+1)).take (ixB (s.drop (i+1)) 93).toNat) none256=none))\/(∃(x:Nat)(st:List Bool),0<x/\i+1+x<s.length/\Eo s i=((i+1+x:Nat):Int)/\ixB (s.drop (i+1)) 93=(x:Int)/\(s.take (i+1+x)).drop (i+1)=(s.drop (i+1)).take x/\dI ((s.drop (i+1)).take x) none256=some st):=by
 have b:=@uD (s.drop (i+1)) 93;rw[List.length_drop]at b;unfold Eo oA;by_cases d:ixB (s.drop (i+1)) 93<0;·grind
 ·rw[if_neg d];let⟨x,a⟩:=Int.eq_ofNat_of_zero_le (show 0<=ixB (s.drop (i+1)) 93 by omega);rw[a]at b⊢;rw[Int.toNat_natCast,if_neg (by omega)];by_cases f:x=0;·grind
  ·rw[if_neg (by omega)];have c:(s.take (i+1+x)).drop (i+1)=(s.drop (i+1)).take x:=by rw[List.drop_take,show i+1+x-(i+1)=x by omega]
   rw[c,<-xW (acc:=none256)];cases e:dI ((s.drop (i+1)).take x) none256 with|none=>simp|some st=>grind
theorem vm{r:List UInt8}(h:ixB r 93<=0\/dI (r.take (ixB r 93).toNat) none256=none):cX (91::r)=none:=by rw[cX,if_neg (by simp),if_neg (by simp),if_pos rfl];grind
theorem RX{r:List UInt8}{x:Nat}{st:List Bool}(c:0<x)(h:ixB r 93=(x:Int))(a:dI (r.take x) none256=some st):cX (91::r)=(cX (r.drop (x+1))).map ((false,st)::·):=by rw[cX,if_neg (by simp),if_neg (by simp),if_pos rfl,if_neg (by omega),h,Int.toNat_natCast,a]
theorem GP(s:List UInt8)(q:s.length<900000000)(Q:Out->Prop):∀(n i:Nat),s.length<=i+n->i<=s.length->(cX (s.drop i)=none->Q (.ret,[(2,.p (.bool false))],[]))->(∀t,cX (s.drop i)=some t->Q (.nrm,[],[]))->Wp Γ dq [(0,.p (.str s)),(3,.p (.int .i64 (i:Int)))] [] (aW [] 0 Q):=by intro n;induction n with
 |zero=>
  intro i o hi a c;obtain rfl:i=s.length:=by omega
  rw[aa (L:=dq) rfl];simp(disch:=first|exact Dq|fail)only[go_sem];exact c [] (by rw[List.drop_length,cX])|succ n k=>
  intro i o hi a c;by_cases g:i<s.length
  ·have b0:=@fk s i;have b1:=@qr s i;rw[drop1 g]at a c;by_cases e:byt s i=91
   ·have d:=zx s q i g;rw[(aR 91).1 e]at a c;rcases xK g with⟨k1,k2⟩|⟨x,st,k1,k2,r,m,u,k6⟩;·rw[k1]at d;rw[aa (L:=dq) rfl];simp(disch:=first|exact Dq|fail)only[go_sem,e,d];exact a (vm k2)
    ·rw[RX k1 m k6]at a c;rw[List.drop_drop]at a c;rw[r]at d;rw[aa (L:=dq) rfl];simp(disch:=first|exact Dq|fail)only[go_sem,e,d];have :=k (i+1+(x+1)) (by omega) (by omega) (λh=>a (jV h)) (λt h=>c _ (jO h));grind
   ·rw[cX]at a c;by_cases j:byt s i=42;·rw[if_pos ((aR 42).1 j)]at a c;rw[aa (L:=dq) rfl];simp(disch:=first|exact Dq|fail)only[go_sem,j];exact k (i+1) (by omega) (by omega) (λh=>a (jV h)) (λt h=>c _ (jO h))
    ·rw[if_neg (kn (b:=42) j)]at a c;by_cases f:byt s i=63;·rw[if_pos ((aR 63).1 f)]at a c;rw[aa (L:=dq) rfl];simp(disch:=first|exact Dq|fail)only[go_sem,f];exact k (i+1) (by omega) (by omega) (λh=>a (jV h)) (λt h=>c _ (jO h))
     ·rw[if_neg (kn (b:=63) f),if_neg (kn (b:=91) e)]at a c;have d:=Bo (byt s i) b0 (by omega);rw[td]at d;cases l:il (s.getD i 0);·rw[if_neg (by grind)]at a;rw[l]at d;rw[aa (L:=dq) rfl];simp(disch:=first|exact Dq|fail)only[go_sem,d];grind
      ·rw[if_pos l]at a c;rw[l]at d;rw[aa (L:=dq) rfl];simp(disch:=first|exact Dq|fail)only[go_sem,d];exact k (i+1) (by omega) (by omega) (λh=>a (jV h)) (λt h=>c _ (jO h))
  grind
theorem oL(s:List UInt8)(a:s.length<900000000):res Γ 39 [.str s]=some [.bool (cX s).isSome]:=by
 refine ae (fn:=rR) rfl rfl ?_;simp(disch:=first|exact Dq|fail)only[go_sem,rR];refine GP s a _ s.length 0 (by omega) (by omega) (λh=>?_) (λt h=>?_);·rw[List.drop_zero]at h;simp(disch:=first|exact Dq|fail)only[go_sem,h];rfl
 ·rw[List.drop_zero]at h;simp(disch:=first|exact Dq|fail)only[go_sem,h];rfl
theorem uy{D:List Bool}{k m:Nat}{v:Bool}(h:k<=D.length):(D.take k++List.replicate (m+1) false).set k v=D.take k++v::List.replicate m false:=by rw[List.set_append_right _ _ (by grind),List.length_take,Nat.min_eq_left h,Nat.sub_self];rfl
theorem GO{D:List Bool}{k m:Nat}(h:k<D.length):D.take k++D.getD k false::List.replicate m false=D.take (k+1)++List.replicate m false:=by rw[py false h,List.append_assoc];rfl
theorem UM{D R:List Bool}{k j:Nat}(h:j<k)(b:k<=D.length):(D.take k++R).getD j false=D.getD j false:=by grind
structure TokAt(p:List UInt8)(i e:Nat)(t:Tok):Prop where
 notAny:t.1=false
 ask:byt p i=63/\(∀c,inT t c=true)\/byt p i=91/\i<e/\e<=p.length/\(∀c,inT t c=inF ((p.take e).drop (i+1)) c)\/byt p i≠63/\byt p i≠91/\(∀c,inT t c=(p.getD i 0==c))
abbrev mEnv(p s:List UInt8)(i e k:Nat):Env:=[(0,.p (.str p)),(1,.p (.str s)),(5,.own 0 (s.length+1)),(6,.p (.int .i64 (i:Int))),(7,.own 1 (s.length+1)),(8,.p (.int .i64 (e:Int))),(9,.p (.int .i64 (k:Int)))]
theorem PL(p s:List UInt8)(_hp:p.length<900000000)(hs:s.length<900000000)(i e:Nat)(hi:i<p.length)(a:byt p i=42){A D:List Bool}(hA:A.length=s.length+1)(hD:D.length=s.length+1)(d0:D.getD 0 false=A.getD 0 false)(dS:∀k,k<s.length->D.getD (k+1) false=(A.getD (k+1) false||D.getD k false))(Q:Out->Prop):∀(m k:Nat),k+m=s.length+1->Q (.nrm,[(0,.p (.str p)),(1,.p (.str s)),(7,.own 1 (s.length+1)),(8,.p (.int .i64 (e:Int)))],[.row false 1 (cv A),.row false 1 (cv D)])->Wp Γ bG (mEnv p s i e k) [.row false 1 (cv A),.row false 1 (cv (D.take k++List.replicate m false))] (aW [0,1,7,8] 2 Q):=by intro m;induction m with
 |zero=>
  intro k hk hQ;obtain rfl:k=s.length+1:=by omega
  rw[List.replicate_zero,List.append_nil,List.take_of_length_le (by omega)];rw[aa (L:=bG) rfl];simp(disch:=first|exact Dq|fail)only[go_sem];grind|succ m b=>
  intro k hk hQ;have b:=b (k+1) (by omega) hQ;have d:=λv=>uy (D:=D) (k:=k) (m:=m) (v:=v) (by omega);rw[<-GO (by omega)]at b;cases c:A.getD k false
  ·by_cases h0:k=0;·subst h0;rw[d0,c]at b;rw[aa (L:=bG) rfl];simp(disch:=first|exact Dq|fail)only[go_sem,a,c];grind
   ·obtain⟨k,rfl⟩:∃j,k=j+1:=⟨k-1,by omega⟩;have ek:((k+1:Nat):Int)-1=(k:Int):=by omega
    have eg:(D.take (k+1)++List.replicate (m+1) false).getD k false=D.getD k false:=UM (by omega) (by omega);rw[dS k (by omega),c,Bool.false_or]at b;rw[aa (L:=bG) rfl];simp(disch:=first|exact Dq|fail)only[go_sem,a,c,ek,eg,d];grind
  ·have :D.getD k false=true:=by
    by_cases h0:k=0;·grind
    ·obtain⟨k,rfl⟩:∃j,k=j+1:=⟨k-1,by omega⟩;grind
   rw[this]at b;rw[aa (L:=bG) rfl];simp(disch:=first|exact Dq|fail)only[go_sem,a,c,d];grind
theorem LU(p s:List UInt8)(B:p.length<900000000)(F:s.length<900000000)(i e:Nat)(hi:i<p.length)(E:byt p i≠42){t:Tok}(z:TokAt p i e t){A D:List Bool}(hA:A.length=s.length+1)(hD:D.length=s.length+1)(w:D.getD 0 false=false)(y:∀k,k<s.length->D.getD (k+1) false=(A.getD k false&&inT t (s.getD k 0)))(Q:Out->Prop):∀(m k:Nat),k+m=s.length+1->Q (.nrm,[(0,.p (.str p)),(1,.p (.str s)),(7,.own 1 (s.length+1)),(8,.p (.int .i64 (e:Int)))],[.row false 1 (cv A),.row false 1 (cv D)])->Wp Γ bG (mEnv p s i e k) [.row false 1 (cv A),.row false 1 (cv (D.take k++List.replicate m false))] (aW [0,1,7,8] 2 Q):=by intro m;induction m with
 |zero=>
  intro k x u;obtain rfl:k=s.length+1:=by omega
  rw[List.replicate_zero,List.append_nil,List.take_of_length_le (by omega)];rw[aa (L:=bG) rfl];simp(disch:=first|exact Dq|fail)only[go_sem];grind|succ m a=>
  intro k x u;have a:=a (k+1) (by omega) u;have b:=λv=>uy (D:=D) (k:=k) (m:=m) (v:=v) (by omega);rw[<-GO (by omega)]at a;by_cases C:k=0;·subst C;rw[w]at a;rw[aa (L:=bG) rfl];simp(disch:=first|exact Dq|fail)only[go_sem];grind
  ·obtain⟨k,rfl⟩:∃j,k=j+1:=⟨k-1,by omega⟩;have h:((k+1:Nat):Int)-1=(k:Int):=by omega
   rw[y k (by omega)]at a;cases f:A.getD k false;·rw[f,Bool.false_and]at a;rw[aa (L:=bG) rfl];simp(disch:=first|exact Dq|fail)only[go_sem,f,h];grind
   ·rw[f,Bool.true_and]at a;rcases z.ask with⟨d,l⟩|⟨c,r,q,l⟩|⟨d,c,l⟩;·rw[l]at a;rw[aa (L:=bG) rfl];simp(disch:=first|exact Dq|fail)only[go_sem,f,h,d,b];grind
    ·have o:=res_r9in p e q B (s.getD k 0) i r;have n:byt s k=((s.getD k 0).toNat:Int):=rfl;rw[l]at a;cases g:inF ((p.take e).drop (i+1)) (s.getD k 0);·rw[g]at o a;rw[aa (L:=bG) rfl];simp(disch:=first|exact Dq|fail)only[go_sem,f,h,c,n,o,b,ne_eq,not_true_eq_false];grind
     ·rw[g]at o a;rw[aa (L:=bG) rfl];simp(disch:=first|exact Dq|fail)only[go_sem,f,h,c,n,o,b];grind
    ·rw[l]at a;have n:(p.getD i 0==s.getD k 0)=decide (byt p i=byt s k):=by
      have :p.getD i 0=s.getD k 0↔byt p i=byt s k:=by unfold byt;rw[<-UInt8.toNat_inj];omega
      grind
     rw[n]at a;rw[aa (L:=bG) rfl];simp(disch:=first|exact Dq|fail)only[go_sem,f,h,c,d,b];grind
theorem m_l2_ok(p s:List UInt8)(hp:p.length<900000000)(hs:s.length<900000000){T:List Tok}(Q:Out->Prop)(hQ:Q (.nrm,[(1,.p (.str s)),(5,.own 0 (s.length+1))],[.row false 1 (cv (dpV T s))])):∀(n i:Nat)(f r:List Tok)(a:Env)(H:Heap),p.length<=i+n->i<=p.length->T=f++r->cX (p.drop i)=some r->norm [0,1,5,6] (some 0) a H=some ([(0,.p (.str p)),(1,.p (.str s)),(5,.own 0 (s.length+1)),(6,.p (.int .i64 (i:Int)))],[.row false 1 (cv (dpV f s))])->Wp Γ dQ a H (aW [1,5] 0 Q):=by
 intro n;have fin:∀(f r:List Tok)(a:Env)(H:Heap),T=f++r->cX (p.drop p.length)=some r->norm [0,1,5,6] (some 0) a H=some ([(0,.p (.str p)),(1,.p (.str s)),(5,.own 0 (s.length+1)),(6,.p (.int .i64 ((p.length:Nat):Int)))],[.row false 1 (cv (dpV f s))])->Wp Γ dQ a H (aW [1,5] 0 Q):=by intro f r a H hT d y;rw[List.drop_length,cX]at d;cases d;rw[List.append_nil]at hT;subst hT;rw[aa (L:=dQ) rfl];rw[y];simp(disch:=first|exact Dq|fail)only[go_sem];grind
 induction n with
 |zero=>grind|succ n ih=>
  intro i f r a H hn hi hT d y;by_cases g:i<p.length
  ·have hA:=@rj f s;have l:List.replicate (s.length+1) (PV.bool false)=cv (List.replicate (s.length+1) false):=sw;have e:((s.length:Int)+1).toNat=s.length+1:=by omega
   have nrm:∀(j:Nat)(D A:List Bool),norm [0,1,5,6] (some 0) [(6,.p (.int .i64 (j:Int))),(0,.p (.str p)),(1,.p (.str s)),(5,.own 1 (s.length+1)),(6,.p (.int .i64 (j:Int)))] [.row false 1 (cv A),.row false 1 (cv D)]=some ([(0,.p (.str p)),(1,.p (.str s)),(5,.own 0 (s.length+1)),(6,.p (.int .i64 (j:Int)))],[.row false 1 (cv D)]):=by intro j D A;rfl
   rw[drop1 g]at d;by_cases h:byt p i=91
   ·have er:=zx p hp i g;rw[(aR 91).1 h]at d;rcases xK g with⟨k1,k2⟩|⟨x,st,k1,k2,k3,k4,k5,k6⟩;·rw[vm k2]at d;grind
    ·rw[RX k1 k4 k6]at d;obtain⟨U,m,rfl⟩:=Option.map_eq_some_iff.1 d;rw[List.drop_drop]at m;rw[k3]at er;have w:TokAt p i (i+1+x) (false,st):=⟨rfl,.inr (.inl ⟨h,by omega,by omega,λc=>by rw[toks_inT k6,k5]⟩)⟩;have v:=@rj (f++[(false,st)]) s;rw[aa (L:=dQ) rfl];rw[y];simp(disch:=first|exact Dq|fail)only[go_sem,h,er,e,l];refine LU p s hp hs i (i+1+x) g (by grind) w hA v (TP rfl) (λk hk=>dp_set rfl hk) _ (s.length+1) 0 (by omega) ?_;simp(disch:=first|exact Dq|fail)only[go_sem];refine ih (i+1+(x+1)) (f++[(false,st)]) U _ _ (by omega) (by omega) (by grind) m ?_;rfl
   ·rw[cX,if_neg (kn (b:=91) h)]at d;by_cases o:byt p i=42;·rw[if_pos ((aR 42).1 o)]at d;obtain⟨U,m,rfl⟩:=Option.map_eq_some_iff.1 d;have v:=@rj (f++[(true,none256)]) s;rw[aa (L:=dQ) rfl];rw[y];simp(disch:=first|exact Dq|fail)only[go_sem,e,l];refine PL p s hp hs i i g o hA v (dp_star0 rfl) (λk hk=>dp_star rfl hk) _ (s.length+1) 0 (by omega) ?_;simp(disch:=first|exact Dq|fail)only[go_sem];refine ih (i+1) (f++[(true,none256)]) U _ _ (by omega) (by omega) (by grind) m ?_;rfl
    ·rw[if_neg (kn (b:=42) o)]at d;have u:∀{t:Tok}{U:List Tok},TokAt p i i t->cX (p.drop (i+1))=some U->r=t::U->Wp Γ dQ a H (aW [1,5] 0 Q):=by intro t U w m e2;subst e2;have v:=@rj (f++[t]) s;rw[aa (L:=dQ) rfl];rw[y];simp(disch:=first|exact Dq|fail)only[go_sem,e,l];refine LU p s hp hs i i g o w hA v (TP w.notAny) (λk hk=>dp_set w.notAny hk) _ (s.length+1) 0 (by omega) ?_;simp(disch:=first|exact Dq|fail)only[go_sem];refine ih (i+1) (f++[t]) U _ _ (by omega) (by omega) (by grind) m ?_;rfl
     by_cases q:byt p i=63;·rw[if_pos ((aR 63).1 q)]at d;let⟨U,m,e2⟩:=Option.map_eq_some_iff.1 d;exact u (t:=(false,jK none256 0 256)) ⟨rfl,.inl ⟨q,λc=>by unfold inT;dsimp only;exact all_get c⟩⟩ m e2.symm
     ·rw[if_neg (kn (b:=63) q)]at d;split at d;·let⟨U,m,e2⟩:=Option.map_eq_some_iff.1 d;exact u (t:=single (p.getD i 0)) ⟨rfl,.inr (.inr ⟨q,h,λc=>Ru⟩)⟩ m e2.symm
      grind
  grind
theorem DA(p s:List UInt8)(d:p.length<900000000)(f:s.length<900000000){T:List Tok}(h:cX p=some T):res Γ 44 [.str p,.str s]=some [.bool (mtD T s)]:=by
 have c:List.replicate (s.length+1) (PV.bool false)=cv (List.replicate (s.length+1) false):=sw;have a:((s.length:Int)+1).toNat=s.length+1:=by omega
 have e:(List.replicate (s.length+1) false).set 0 true=dpV [] s:=by rw[dpV_nil];rfl
 have i:=@rj T s;have b:=@dp_last T s;refine ae (fn:=pY) rfl rfl ?_;simp(disch:=first|exact Dq|fail)only[go_sem,pY,a,c,e];refine m_l2_ok p s d f (T:=T) _ ?_ p.length 0 [] T _ _ (by omega) (by omega) rfl (by grind) ?_;·simp(disch:=first|exact Dq|fail)only[go_sem,b]
 rfl
theorem Ie(p s:List UInt8)(b:p.length<900000000)(d:s.length<900000000):res Γ 20 [.str p,.str s]=some [.bool (matchB p s)]:=by have e:=oL p b;unfold matchB;cases a:cX p with
 |none=>rw[a]at e;have e:res Γ 39 [.str p]=some [.bool false]:=e;refine ae (fn:=pn) rfl rfl ?_;simp(disch:=first|exact Dq|fail)only[go_sem,pn,e]|some T=>rw[a]at e;have e:res Γ 39 [.str p]=some [.bool true]:=e;have c:=DA p s b d a;refine ae (fn:=pn) rfl rfl ?_;simp(disch:=first|exact Dq|fail)only[go_sem,pn,e,c]
def uM(p:List UInt8):Bool:=decide (p≠[])&&(cX p).isSome
def Bk(s:List UInt8):List PV:=if(splitB 46 s).all uM=true/\(splitB 46 s).length<=20 then[.sl .any 1 (strs (splitB 46 s)),.int .i64 0]else[.sl .nil 1 [],.int .i64 8]
theorem bD{c:UInt8}:∀{s p:List UInt8},p∈splitB c s->p.length<=s.length
 |[],p,h=>by simp[splitB]at h;grind|b::l,p,h=>by
  rw[splitB]at h;split at h
  ·rcases List.mem_cons.1 h with rfl|h;·simp
   ·have :=bD h;grind
  ·split at h;·grind
   ·rename_i x t d;rcases List.mem_cons.1 h with rfl|h;·have :=bD (s:=l) (p:=x) (c:=c) (by grind);grind
    ·have :=bD (s:=l) (p:=p) (c:=c) (by grind);grind
theorem getD_mem{l:List (List UInt8)}{i:Nat}(h:i<l.length):l.getD i []∈l:=by grind
theorem pq{a:Type}{l:List a}{i:Nat}{f:a->Bool}(d:a)(h:i<l.length):(l.drop i).all f=(f (l.getD i d)&&(l.drop (i+1)).all f):=by rw[List.drop_eq_getElem_cons h,List.all_cons];grind
theorem HH{kk k2:SK}(l:List (List UInt8))(m:l.length<=900000000)(h:∀p∈l,p.length<900000000)(Q:Out->Prop):∀(n i:Nat),i+n=l.length->((l.drop i).all uM=false->Q (.ret,[(2,.p (.sl .nil 1 [])),(3,.p (.int .i64 8))],[]))->((l.drop i).all uM=true->Q (.nrm,[(4,.p (.sl kk 1 (strs l)))],[]))->Wp Γ gF [(4,.p (.sl kk 1 (strs l))),(11,.p (.sl k2 1 (strs l))),(12,.p (.int .i64 (l.length:Int))),(13,.p (.int .i64 (i:Int)))] [] (aW [4] 0 Q):=by intro n;induction n with
 |zero=>
  intro i hi a b;obtain rfl:i=l.length:=by omega
  rw[aa (L:=gF) rfl];simp(disch:=first|exact Dq|fail)only[go_sem];grind|succ n j=>
  intro i hi a b;have c:i<l.length:=by omega
  have g:=h _ (getD_mem c);rw[pq [] c]at a b;unfold uM at a b;cases d:cX (l.getD i [])with|none=>have e:=nv _ g d;rw[d]at a;rw[aa (L:=gF) rfl];simp(disch:=first|exact Dq|fail)only[go_sem,e];grind|some t=>
   have e:=tF _ g d;rw[d]at a b;by_cases f:l.getD i []=[];·rw[f]at e a;rw[aa (L:=gF) rfl];simp(disch:=first|exact Dq|fail)only[go_sem,f,e];grind
   ·rw[decide_eq_true f]at a b;rw[aa (L:=gF) rfl];simp(disch:=first|exact Dq|fail)only[go_sem,e];exact j (i+1) (by omega) a b
theorem Ec(s:List UInt8)(e:s.length<900000000):res Γ 23 [.str s]=some (Bk s):=by
 have d:=bz 46 s;have c:=@count_le s 46;have b:∀p∈splitB 46 s,p.length<900000000:=λp a=>by have :=bD a;omega
 unfold Bk;refine ae (fn:=pU) rfl rfl ?_;simp(disch:=first|exact Dq|fail)only[go_sem,pU];refine HH (splitB 46 s) (by omega) b _ (splitB 46 s).length 0 (by omega) (λh=>?_) (λh=>?_);·rw[List.drop_zero]at h;simp(disch:=first|exact Dq|fail)only[go_sem];grind
 ·rw[List.drop_zero]at h;by_cases g:(splitB 46 s).length<=20;·simp(disch:=first|exact Dq|fail)only[go_sem];grind
  ·simp(disch:=first|exact Dq|fail)only[go_sem];grind
theorem Au{kk:SK}(l:List (List UInt8))(k:l.length<=900000000)(j:∀p∈l,p.length<900000000)(Q:Out->Prop):∀(n i:Nat),i+n=l.length->((l.drop i).all uM=false->Q (.ret,[(2,.p (.sl .nil 1 [])),(3,.p (.int .i64 8))],[]))->((l.drop i).all uM=true->Q (.nrm,[(4,.p (.sl kk 1 (strs l)))],[]))->Wp Γ jy [(4,.p (.sl kk 1 (strs l))),(5,.p (.int .i64 (i:Int)))] [] (aW [4] 0 Q):=by intro n;induction n with
 |zero=>
  intro i hi a b;obtain rfl:i=l.length:=by omega
  rw[aa (L:=jy) rfl];simp(disch:=first|exact Dq|fail)only[go_sem];grind|succ n g=>
  intro i hi a b;have c:i<l.length:=by omega
  have h:=j _ (getD_mem c);have e:=oL _ h;rw[pq [] c]at a b;unfold uM at a b;by_cases d:l.getD i []=[];·rw[d]at a;rw[aa (L:=jy) rfl];simp(disch:=first|exact Dq|fail)only[go_sem,d];grind
  ·rw[decide_eq_true d]at a b;cases f:(cX (l.getD i [])).isSome;·rw[f]at a e;rw[aa (L:=jy) rfl];simp(disch:=first|exact Dq|fail)only[go_sem,e];grind
   ·rw[f]at b a e;rw[aa (L:=jy) rfl];simp(disch:=first|exact Dq|fail)only[go_sem,e];exact g (i+1) (by omega) a b
theorem Ik(s:List UInt8)(d:s.length<900000000):res Γ 22 [.str s]=some (Bk s):=by
 have a:∀p∈splitB 46 s,p.length<900000000:=λp b=>by have :=bD b;omega
 unfold Bk;refine ae (fn:=th) rfl rfl ?_;by_cases c:(splitB 46 s).length<=20
 ·simp(disch:=first|exact Dq|fail)only[go_sem,th];refine Au (splitB 46 s) (by omega) a _ (splitB 46 s).length 0 (by omega) (λh=>?_) (λh=>?_);·rw[List.drop_zero]at h;simp(disch:=first|exact Dq|fail)only[go_sem];grind
  ·rw[List.drop_zero]at h;simp(disch:=first|exact Dq|fail)only[go_sem];grind
 ·simp(disch:=first|exact Dq|fail)only[go_sem,th];grind
theorem Ba(s:List UInt8)(hs:s.length<900000000)(Q:Out->Prop):∀(n i d:Nat),i+n=s.length->d<=i->(scan d (s.drop i)=false->Q (.ret,[(2,.p (.bool false))],[]))->(∀k:Nat,scan d (s.drop i)=(k==0)->Q (.nrm,[(3,.p (.int .i64 (k:Int)))],[]))->Wp Γ cc [(0,.p (.str s)),(3,.p (.int .i64 (d:Int))),(6,.p (.int .i64 (s.length:Int))),(7,.p (.int .i64 (i:Int)))] [] (aW [3] 0 Q):=by intro n;induction n with
 |zero=>
  intro i d hi l c a;obtain rfl:i=s.length:=by omega
  rw[aa (L:=cc) rfl];simp(disch:=first|exact Dq|fail)only[go_sem];exact a d (by rw[List.drop_length];rfl)|succ n m=>
  intro i d hi l c a;have h:i<s.length:=by omega
  rw[drop1 h,scan]at c a;by_cases j:byt s i=123;·rw[(aR 123).1 j,if_pos (by rfl)]at c a;rw[aa (L:=cc) rfl];simp(disch:=first|exact Dq|fail)only[go_sem,j];grind
  ·rw[if_neg (by simpa using kn (b:=123) j)]at c a;by_cases g:byt s i=125
   ·rw[if_pos (by simpa using(aR 125).1 g)]at c a;by_cases e:d=0;·subst e;rw[aa (L:=cc) rfl];simp(disch:=first|exact Dq|fail)only[go_sem,g];grind
    ·rw[decide_eq_true (by omega),Bool.true_and]at c a;rw[aa (L:=cc) rfl];simp(disch:=first|exact Dq|fail)only[go_sem,g];grind
   ·rw[if_neg (by simpa using kn (b:=125) g)]at c a;by_cases f:byt s i=44
    ·rw[if_pos (by simpa using(aR 44).1 f)]at c a;by_cases e:d=0;·subst e;rw[aa (L:=cc) rfl];simp(disch:=first|exact Dq|fail)only[go_sem,f];grind
     ·rw[decide_eq_true (by omega),Bool.true_and]at c a;rw[aa (L:=cc) rfl];simp(disch:=first|exact Dq|fail)only[go_sem,f];grind
    ·rw[if_neg (by simpa using kn (b:=44) f)]at c a;rw[aa (L:=cc) rfl];simp(disch:=first|exact Dq|fail)only[go_sem];grind
theorem KX{d:Nat}:decide ((d:Int)=0)=(d==0):=by grind
theorem uE(s:List UInt8)(a:s.length<900000000):res Γ 38 [.str s]=some [.bool (scan 0 s)]:=by
 refine ae (fn:=ku) rfl rfl ?_;simp(disch:=first|exact Dq|fail)only[go_sem,ku];refine Ba s a _ s.length 0 0 (by omega) (by omega) (λh=>?_) (λd h=>?_);·rw[List.drop_zero]at h;simp(disch:=first|exact Dq|fail)only[go_sem,h]
 ·rw[List.drop_zero]at h;simp(disch:=first|exact Dq|fail)only[go_sem];rw[h,KX]
theorem Gs(s:List UInt8)(hs:s.length<900000000)(Q:Out->Prop):∀(n i d:Nat),i+n=s.length->d<=i->(scan d (s.drop i)=false->Q (.ret,[(2,.p (.bool false))],[]))->(∀k:Nat,scan d (s.drop i)=(k==0)->Q (.nrm,[(3,.p (.int .i64 (k:Int)))],[]))->Wp Γ dX [(0,.p (.str s)),(3,.p (.int .i64 (d:Int))),(4,.p (.int .i64 (i:Int)))] [] (aW [3] 0 Q):=by intro n;induction n with
 |zero=>
  intro i d hi l c a;obtain rfl:i=s.length:=by omega
  rw[aa (L:=dX) rfl];simp(disch:=first|exact Dq|fail)only[go_sem];exact a d (by rw[List.drop_length];rfl)|succ n ih=>
  intro i d hi l c a;have h:i<s.length:=by omega
  rw[drop1 h,scan]at c a;by_cases j:byt s i=123;·rw[(aR 123).1 j,if_pos (by rfl)]at c a;rw[aa (L:=dX) rfl];simp(disch:=first|exact Dq|fail)only[go_sem,j];grind
  ·rw[if_neg (by simpa using kn (b:=123) j)]at c a;by_cases g:byt s i=125
   ·rw[if_pos (by simpa using(aR 125).1 g)]at c a;by_cases e:d=0;·subst e;rw[aa (L:=dX) rfl];simp(disch:=first|exact Dq|fail)only[go_sem,g];grind
    ·rw[decide_eq_true (by omega),Bool.true_and]at c a;rw[aa (L:=dX) rfl];simp(disch:=first|exact Dq|fail)only[go_sem,g];grind
   ·rw[if_neg (by simpa using kn (b:=125) g)]at c a;by_cases f:byt s i=44
    ·rw[if_pos (by simpa using(aR 44).1 f)]at c a;by_cases e:d=0;·subst e;rw[aa (L:=dX) rfl];simp(disch:=first|exact Dq|fail)only[go_sem,f];grind
     ·rw[decide_eq_true (by omega),Bool.true_and]at c a;rw[aa (L:=dX) rfl];simp(disch:=first|exact Dq|fail)only[go_sem,f];grind
    ·rw[if_neg (by simpa using kn (b:=44) f)]at c a;rw[aa (L:=dX) rfl];simp(disch:=first|exact Dq|fail)only[go_sem];grind
theorem vj(s:List UInt8)(a:s.length<900000000):res Γ 42 [.str s]=some [.bool (scan 0 s)]:=by
 refine ae (fn:=sS) rfl rfl ?_;simp(disch:=first|exact Dq|fail)only[go_sem,sS];refine Gs s a _ s.length 0 0 (by omega) (by omega) (λh=>?_) (λd h=>?_);·rw[List.drop_zero]at h;simp(disch:=first|exact Dq|fail)only[go_sem,h]
 ·rw[List.drop_zero]at h;simp(disch:=first|exact Dq|fail)only[go_sem];rw[h,KX]
def zC(p:List UInt8):Bool:=decide (p≠[])&&p.all il
def nameB(s:List UInt8):Bool:=decide (1<=s.length)&&decide (s.length<=200)&&decide ((splitB 46 s).length<=20)&&(splitB 46 s).all zC
theorem Hf(p:List UInt8)(s:p.length<=1000)(h b d:AV)(H:Heap)(Q:Out->Prop):∀(f i:Nat),i+f=p.length->((∀c∈p.drop i,il c=true)->∀e,look e 22=h->look e 23=b->look e 24=d->Q (.ex 2,e,H))->((¬∀c∈p.drop i,il c=true)->∀e,look e 2=.p (.bool false)->Q (.ret,e,H))->Wp Γ fT [(5,.p (.str p)),(22,h),(23,b),(24,d),(31,.p (.int .i64 (p.length:Int))),(32,.p (.int .i64 (i:Int)))] H Q:=by intro f;induction f with
 |zero=>
  intro i hi k j;have hi:i=p.length:=by omega
  subst hi;rw[aa (L:=fT) rfl];simp(disch:=first|exact Dq|fail)only[go_sem,fT];exact k (by simp) _ rfl rfl rfl|succ f m=>
  intro i hi k j;have o:i<p.length:=by omega
  have q:p.drop i=p.getD i 0::p.drop (i+1):=by simp[*]
  have b0:=@fk p i;have r:=@qr p i;have a:=AX (byt p i) b0 (by omega);rw[td]at a;rw[q]at k j;cases n:il (p.getD i 0)with|true=>
   rw[n]at a;have m:=m (i+1) (by omega) (λl=>k (λc g=>by grind)) (λl=>j (λa=>l λc g=>a c (List.mem_cons_of_mem _ g)));rw[aa (L:=fT) rfl];simp(disch:=first|exact Dq|fail)only[go_sem,fT,a];exact m|false=>rw[n]at a;rw[aa (L:=fT) rfl];simp(disch:=first|exact Dq|fail)only[go_sem,fT,a];exact j (λl=>by grind) _ rfl
theorem partB_iff{p:List UInt8}:zC p=true↔p≠[]/\∀c∈p,il c=true:=by simp[zC,]
theorem GK{kk:SK}(ps:List (List UInt8))(w:ps.length<=1000)(v:∀p∈ps,p.length<=1000)(H:Heap)(Q:Out->Prop):∀(f i:Nat),i+f=ps.length->((∀p∈ps.drop i,zC p=true)->∀e,Q (.ex 0,e,H))->((¬∀p∈ps.drop i,zC p=true)->∀e,look e 2=.p (.bool false)->Q (.ret,e,H))->Wp Γ fo [(22,.p (.sl kk 1 (strs ps))),(23,.p (.int .i64 (ps.length:Int))),(24,.p (.int .i64 (i:Int)))] H Q:=by intro f;induction f with
 |zero=>
  intro i hi g b;have hi:i=ps.length:=by omega
  subst hi;rw[aa (L:=fo) rfl];simp(disch:=first|exact Dq|fail)only[go_sem,fo];grind|succ f s=>
  intro i hi g b;have r:i<ps.length:=by omega
  have u:ps.drop i=ps.getD i []::ps.drop (i+1):=by simp[*]
  have h:=v (ps.getD i []) (by grind);rw[u]at g b;generalize a:ps.getD i []=p at*;by_cases k:p=[];·rw[aa (L:=fo) rfl];simp(disch:=first|exact Dq|fail)only[go_sem,fo,a,k];refine b (λc=>?_) _ rfl;have :=(partB_iff.1 (c _ (List.mem_cons_self ..))).1;grind
  ·have j:=λo=>Hf p h (.p (.sl kk 1 (strs ps))) (.p (.int .i64 (ps.length:Int))) (.p (.int .i64 (i:Int))) H o p.length 0 (by omega);rw[aa (L:=fo) rfl];simp(disch:=first|exact Dq|fail)only[go_sem,fo,a,k];refine j _ (λc e l t n=>?_) (λc e l=>?_)
   ·simp(disch:=first|exact Dq|fail)only[go_sem,l,t,n];refine s (i+1) (by omega) (λm=>g λq a=>?_) (λm=>b λd=>m λq a=>d q (List.mem_cons_of_mem _ a));rcases List.mem_cons.1 a with rfl|a;·exact partB_iff.2 ⟨k,by grind⟩
    grind
   ·simp(disch:=first|exact Dq|fail)only[go_sem];exact b (λd=>c (by simpa using(partB_iff.1 (d _ (List.mem_cons_self ..))).2)) _ l
theorem ta{s:List UInt8}:((∀p∈splitB 46 s,zC p=true)↔(splitB 46 s).all zC=true):=by simp
theorem kK(s:List UInt8)(i:s.length<=1000):res Γ 56 [.str s]=some [.bool (nameB s)]:=by
 refine ae (fn:=lh) rfl rfl ?_;unfold nameB;by_cases j:s.length<1
 ·have :decide (1<=s.length)=false:=by grind
  simp(disch:=first|exact Dq|fail)only[go_sem,lh,this]
 ·by_cases m:200<s.length
  ·have :decide (s.length<=200)=false:=by grind
   simp(disch:=first|exact Dq|fail)only[go_sem,lh,this]
  ·by_cases l:20<(splitB 46 s).length
   ·have :decide ((splitB 46 s).length<=20)=false:=by grind
    simp(disch:=first|exact Dq|fail)only[go_sem,lh,this]
   ·have d:decide (1<=s.length)=true:=by grind
    have h:decide (s.length<=200)=true:=by grind
    have g:decide ((splitB 46 s).length<=20)=true:=by grind
    simp(disch:=first|exact Dq|fail)only[go_sem,lh,d,h,g];refine GK (splitB 46 s) (by omega) (λp c=>by have :=bD c;omega) _ _ (splitB 46 s).length 0 (by omega) (λb e=>?_) (λb e f=>?_);·rw[List.drop_zero,ta]at b;simp(disch:=first|exact Dq|fail)only[go_sem,b]
    ·rw[List.drop_zero,ta]at b;have b:(splitB 46 s).all zC=false:=by grind
     simp(disch:=first|exact Dq|fail)only[go_sem,f,b]
theorem NV{kk:SK}(ps:List (List UInt8))(n:ps.length<=1000)(j:Nat)(u:j<ps.length)(p:List UInt8)(a:ps.getD j []=p)(s:p.length<=1000)(H:Heap)(Q:Out->Prop):∀(f i:Nat),i+f=p.length->((∀c∈p.drop i,il c=true)->∀e,look e 3=.p (.sl kk 1 (strs ps))->look e 4=.p (.int .i64 (j:Int))->Q (.ex 2,e,H))->((¬∀c∈p.drop i,il c=true)->∀e,look e 2=.p (.bool false)->Q (.ret,e,H))->Wp Γ lQ [(3,.p (.sl kk 1 (strs ps))),(4,.p (.int .i64 (j:Int))),(5,.p (.int .i64 (i:Int)))] H Q:=by intro f;induction f with
 |zero=>
  intro i hi h g;have hi:i=p.length:=by omega
  subst hi;rw[aa (L:=lQ) rfl];simp(disch:=first|exact Dq|fail)only[go_sem,lQ,a];exact h (by simp) _ rfl rfl|succ f l=>
  intro i hi h g;have q:i<p.length:=by omega
  have o:p.drop i=p.getD i 0::p.drop (i+1):=by simp[*]
  have b0:=@fk p i;have t:=@qr p i;have b:=Bo (byt p i) b0 (by omega);rw[td]at b;rw[o]at h g;cases m:il (p.getD i 0)with|true=>
   rw[m]at b;have l:=l (i+1) (by omega) (λk=>h (λc d=>by grind)) (λk=>g (λb=>k λc d=>b c (List.mem_cons_of_mem _ d)));rw[aa (L:=lQ) rfl];simp(disch:=first|exact Dq|fail)only[go_sem,lQ,a,b];exact l|false=>rw[m]at b;rw[aa (L:=lQ) rfl];simp(disch:=first|exact Dq|fail)only[go_sem,lQ,a,b];exact g (λk=>by grind) _ rfl
theorem Pl{kk:SK}(ps:List (List UInt8))(o:ps.length<=1000)(t:∀p∈ps,p.length<=1000)(H:Heap)(Q:Out->Prop):∀(f i:Nat),i+f=ps.length->((∀p∈ps.drop i,zC p=true)->∀e,look e 3=.p (.sl kk 1 (strs ps))->Q (.ex 0,e,H))->((¬∀p∈ps.drop i,zC p=true)->∀e,look e 2=.p (.bool false)->Q (.ret,e,H))->Wp Γ lU [(3,.p (.sl kk 1 (strs ps))),(4,.p (.int .i64 (i:Int)))] H Q:=by intro f;induction f with
 |zero=>
  intro i hi c a;have hi:i=ps.length:=by omega
  subst hi;rw[aa (L:=lU) rfl];simp(disch:=first|exact Dq|fail)only[go_sem,lU];exact c (by simp) _ rfl|succ f s=>
  intro i hi c a;have h:i<ps.length:=by omega
  have v:ps.drop i=ps.getD i []::ps.drop (i+1):=by simp[*]
  have m:=t (ps.getD i []) (by grind);rw[v]at c a;by_cases j:ps.getD i []=[];·rw[aa (L:=lU) rfl];simp(disch:=first|exact Dq|fail)only[go_sem,lU,j];refine a (λd=>?_) _ rfl;have :=(partB_iff.1 (d _ (List.mem_cons_self ..))).1;grind
  ·have k:=λr=>NV (kk:=kk) ps o i h (ps.getD i []) rfl m H r (ps.getD i []).length 0 (by omega);rw[aa (L:=lU) rfl];simp(disch:=first|exact Dq|fail)only[go_sem,lU,j];refine k _ (λd e l u=>?_) (λd e l=>?_)
   ·simp(disch:=first|exact Dq|fail)only[go_sem,l,u];refine s (i+1) (by omega) (λn=>c λq b=>?_) (λn=>a λg=>n λq b=>g q (List.mem_cons_of_mem _ b));rcases List.mem_cons.1 b with rfl|b;·exact partB_iff.2 ⟨j,by grind⟩
    grind
   ·simp(disch:=first|exact Dq|fail)only[go_sem];exact a (λg=>d (by simpa using(partB_iff.1 (g _ (List.mem_cons_self ..))).2)) _ l
theorem vL(s:List UInt8):res Γ 396 [.str s]=some [.bool (nameB s)]:=by
 have j:=bz 46 s;have h:=@count_le s 46;refine ae (fn:=NJ) rfl rfl ?_;unfold nameB;by_cases m:s.length<1
 ·have :decide (1<=s.length)=false:=by grind
  simp(disch:=first|exact Dq|fail)only[go_sem,NJ,this]
 ·by_cases k:200<s.length
  ·have :decide (s.length<=200)=false:=by grind
   simp(disch:=first|exact Dq|fail)only[go_sem,NJ,this]
  ·have d:=na s (by omega);have f:decide (1<=s.length)=true:=by grind
   have g:decide (s.length<=200)=true:=by grind
   simp(disch:=first|exact Dq|fail)only[go_sem,NJ,d,f,g];refine Pl (splitB 46 s) (by omega) (λp i=>by have :=bD i;omega) _ _ (splitB 46 s).length 0 (by omega) (λa e c=>?_) (λa e c=>?_);·rw[List.drop_zero,ta]at a;simp(disch:=first|exact Dq|fail)only[go_sem,a,c];simp;omega
   ·rw[List.drop_zero,ta]at a;have a:(splitB 46 s).all zC=false:=by grind
    simp(disch:=first|exact Dq|fail)only[go_sem,c,a]
theorem still420:aw Γ 420=true:=rfl
theorem Lo:aw Γ 414=true:=rfl
structure Laid(N:Tri)(H:Heap)(r n:Nat)(ps:Path)(i:Nat)(N':Tri)(H':Heap):Prop where
 lies:Lies H' N' r n
 some:∀q,(∃x,N' q=some x)↔(∃x,N q=some x)\/∃j,j<=i/\q=ps.take j
 leaf:∀q,bZ N' q=bZ N q
 chg:Chg N N' H H'
theorem Fo{kk:SK}{N:Tri}{H:Heap}{r n:Nat}(ps:Path)(B:ps.length<=1001)(Q:Out->Prop)(w:∀t o c e,Laid N H r n ps ps.length t o->t ps=some c->look e 0=.bx r 0->look e 6=(if ps=[]then .p .nilp else .bx c.b 0)->Q (.ex 0,e,o)):∀(f i:Nat)(d:Tri)(g:Heap)(b:Nd),i+f=ps.length->Laid N H r n ps i d g->d (ps.take i)=some b->Wp Γ cJ [(0,.bx r 0),(5,.bx b.b 0),(6,if i=0 then .p .nilp else .bx b.b 0),(20,.p (.sl kk 1 (strs ps))),(21,.p (.int .i64 (ps.length:Int))),(22,.p (.int .i64 (i:Int)))] g Q:=by intro f;induction f with
 |zero=>
  intro i d g b hi a j;have hi:i=ps.length:=by omega
  subst hi;rw[List.take_length]at j;rw[aa (L:=cJ) rfl];simp(disch:=first|exact Dq|fail)only[go_sem,cJ];refine w d g b _ a j rfl ?_;by_cases l:ps=[];·subst l;rfl
  ·rw[if_neg l,if_neg (λe=>l (List.length_eq_zero_iff.1 e))];rfl|succ f h=>
  intro i d g b hi a j;have z:i<ps.length:=by omega
  have D:ps.take i++[ps.getD i []]=ps.take (i+1):=by simp[*]
  let⟨C,y,k,u,v,m,s,x,A⟩:=step_ok a.lies j (ps.getD i []);rw[D]at m s;have h:=h (i+1) C y k (by omega) ⟨v,λq=>?_,λq=>(x q).trans (a.leaf q),a.chg.trans A⟩ m;·rw[if_neg (by omega)]at h;rw[aa (L:=cJ) rfl];simp(disch:=first|exact Dq|fail)only[go_sem,cJ,still420,u];exact h
  ·rw[s q,a.some q];grind
def iW(N:Tri)(p:Path)(l:Bool):Tri:=λq=>if q=p then(N p).map λnd=>{nd with leaf:=l}else N q
theorem dh{N:Tri}{p q:Path}{l:Bool}{a:Nd}(h:iW N p l q=some a):∃b,N q=some b/\a.b=b.b/\a.m=b.m/\a.kids=b.kids:=by
 unfold iW at h;split at h;·rename_i e;subst e;obtain⟨b,c,rfl⟩:=Option.map_eq_some_iff.1 h;grind
 grind
theorem nc{N:Tri}{p q:Path}{l:Bool}{b:Nd}(h:N q=some b):∃a,iW N p l q=some a/\a.b=b.b/\a.m=b.m/\a.kids=b.kids:=by unfold iW;grind
theorem He{H y:Heap}{N:Tri}{r n F:Nat}(h:Lies H N r n){p:Path}(R:p≠[]){w m:Nd}(B:N p=some w)(A:N []=some m){l:Bool}(X:y[w.b]?=some (.box [.mp w.m,.p (.bool l)]))(S:y[m.b]?=some (.box [.mp m.m,.p (.int .i64 (F:Int))]))(M:∀i,i≠w.b->i≠m.b->y[i]?=H[i]?):Lies y (iW N p l) r F where
 root:=by let⟨c,d,t⟩:=h.root;let⟨g,s,j,_⟩:=nc (p:=p) (l:=l) d;grind
 box q g f:=by
  by_cases e:q=p;·subst e;simp[iW,B,]at f;subst f;rw[uB R];grind
  ·have a:N q=some g:=by simpa[iW,e]using f
   by_cases x:q=[];·subst x;rw[A]at a;cases a;exact S
   ·have D:=λE=>e (h.injb _ _ _ _ a B E);have u:=λE=>x (h.injb _ _ _ _ a A E);rw[M _ D u,h.box q g a,uB x,uB x]
 map q g f:=by let⟨c,d,_,s,j⟩:=dh f;rw[s,j,M _ (λe=>h.sep _ _ _ _ B d e.symm) (λe=>h.sep _ _ _ _ A d e.symm)];exact h.map q c d
 kid q g f k b J:=by let⟨c,d,_,s,j⟩:=dh f;rw[j]at J;let⟨o,z,U⟩:=h.kid q c d k b J;let⟨C,P,Q,_⟩:=nc (p:=p) (l:=l) z;grind
 up q k g f:=by let⟨c,d,t,s,j⟩:=dh f;let⟨o,z,U⟩:=h.up q k c d;let⟨C,P,Q,W,T⟩:=nc (p:=p) (l:=l) z;grind
 nodup q g f:=by let⟨c,d,t,s,j⟩:=dh f;rw[j];exact h.nodup q c d
 injb q K c o f a e:=by let⟨n1,d,t,s,j⟩:=dh f;let⟨L,v,G,O,I⟩:=dh a;exact h.injb _ _ _ _ d v (by grind)
 injm q K c o f a e:=by let⟨n1,d,t,s,j⟩:=dh f;let⟨L,v,G,O,I⟩:=dh a;exact h.injm _ _ _ _ d v (by grind)
 sep q K c o f a e:=by let⟨n1,d,t,s,j⟩:=dh f;let⟨L,v,G,O,I⟩:=dh a;exact h.sep _ _ _ _ d v (by grind)
theorem Gq{N:Tri}{p:Path}{l:Bool}{i:Nat}(h:Foot (iW N p l) i):Foot N i:=by let⟨q,c,a,f⟩:=h;let⟨b,d,g,e,_⟩:=dh a;exact⟨q,b,d,by grind⟩
theorem EM{N:Tri}{p:Path}{l:Bool}(q:Path):(∃x,iW N p l q=some x)↔∃x,N q=some x:=by
 constructor;·rintro⟨x,h⟩;let⟨b,a,_⟩:=dh h;grind
 ·rintro⟨x,h⟩;let⟨b,a,_⟩:=nc (p:=p) (l:=l) h;grind
theorem Fb{N:Tri}{p:Path}{l:Bool}{a:Nd}(h:N p=some a)(q:Path):bZ (iW N p l) q=if q=p then l else bZ N q:=by unfold bZ iW;grind
theorem Eg{t:AV}{H:Heap}(s:List UInt8)(c:s.length<=1000)(b:∃r,t=.bx r 0)(d:nameB s=false):resW Γ 401 [t,.p (.str s)] H=some ([.p (.int .i64 14)],H):=by obtain⟨r,rfl⟩:=b;have a:=kK s c;rw[d]at a;refine ah (fn:=dP) rfl rfl ?_;simp(disch:=first|exact Dq|fail)only[go_sem,dP,a]
theorem gG(s:List UInt8):splitB 46 s≠[]:=λe=>by have :=bz 46 s;grind
theorem HC{H:Heap}{N:Tri}{r n:Nat}(h:Lies H N r n)(s:List UInt8)(R:s.length<=1000)(S:nameB s=true)(U:n<=1000000):∃a c,resW Γ 401 [.bx r 0,.p (.str s)] H=some ([.p (.int .i64 0)],c)/\Lies c a r (if bZ N (splitB 46 s)=true then n else n+1)/\(∀q,(∃x,a q=some x)↔(∃x,N q=some x)\/∃j,q=(splitB 46 s).take j)/\(∀q,bZ a q=if q=splitB 46 s then true else bZ N q)/\Chg N a H c:=by
 have t:=kK s R;rw[S]at t;have E:=iI s (by omega);have L:=bz 46 s;have T:=@count_le s 46;let⟨B,O,y⟩:=h.root;have k:∃rs c,resW Γ 401 [.bx r 0,.p (.str s)] H=some (rs,c)/\rs=[.p (.int .i64 0)]/\∃a,Lies c a r (if bZ N (splitB 46 s)=true then n else n+1)/\(∀q,(∃x,a q=some x)↔(∃x,N q=some x)\/∃j,q=(splitB 46 s).take j)/\(∀q,bZ a q=if q=splitB 46 s then true else bZ N q)/\Chg N a H c:=by
  refine ci (fn:=dP) (K:=λrs c=>rs=[.p (.int .i64 0)]/\∃a,Lies c a r (if bZ N (splitB 46 s)=true then n else n+1)/\(∀q,(∃x,a q=some x)↔(∃x,N q=some x)\/∃j,q=(splitB 46 s).take j)/\(∀q,bZ a q=if q=splitB 46 s then true else bZ N q)/\Chg N a H c) rfl rfl ?_;simp(disch:=first|exact Dq|fail)only[go_sem,dP,t,E];have k:=λQ P=>Fo (kk:=.any) (N:=N) (H:=H) (r:=r) (n:=n) (splitB 46 s) (by omega) Q P (splitB 46 s).length 0 N H B (by omega) ⟨h,λq=>⟨λA=>.inl A,λA=>by grind⟩,λ_=>rfl,.refl _ _⟩ O;rw[y,if_pos rfl]at k;refine k _ λa c b e f g I C=>?_;rw[if_neg (gG s)]at C;have u:=f.lies.box _ b g;rw[uB (gG s)]at u;let⟨d,l,v⟩:=f.lies.root;have D:=f.lies.box _ d l;have w:mark [] d n=.p (.int .i64 (n:Int)):=if_pos rfl;rw[w,v]at D;have m:bZ N (splitB 46 s)=b.leaf:=by rw[<-f.leaf,mR g]
  have o:∀q,(∃x,a q=some x)↔(∃x,N q=some x)\/∃j,q=(splitB 46 s).take j:=λq=>by
   rw[f.some q];constructor;·grind
   ·rintro(A|⟨j,rfl⟩);·grind
    ·by_cases W:j<=(splitB 46 s).length;·grind
     ·exact .inr ⟨(splitB 46 s).length,Nat.le_refl _,by grind⟩
  cases F:b.leaf with|true=>rw[F]at u m;simp(disch:=first|exact Dq|fail)only[go_sem,I,C,u];rw[if_pos m];refine⟨a,f.lies,o,λq=>?_,f.chg⟩;rw[f.leaf];grind|false=>
   rw[F]at u m;have z:(c.set b.b (.box [.mp b.m,.p (.bool true)]))[r]?=some (.box [.mp d.m,.p (.int .i64 (n:Int))]):=by grind
   simp(disch:=first|exact Dq|fail)only[go_sem,I,C,u,z];rw[if_neg (by grind)];have J:Lies ((c.set b.b (.box [.mp b.m,.p (.bool true)])).set r (.box [.mp d.m,.p (.int .i64 (((n+1:Nat)):Int))])) (iW a (splitB 46 s) true) r (n+1):=by refine He f.lies (gG s) g l ?_ ?_ λi t G=>?_;all_goals grind
   refine⟨iW a (splitB 46 s) true,?_,λq=>?_,λq=>?_,?_⟩;·grind
   ·rw[EM];simp[*]
   ·rw[Fb g,f.leaf]
   ·have L:Chg a (iW a (splitB 46 s) true) c ((c.set b.b (.box [.mp b.m,.p (.bool true)])).set r (.box [.mp d.m,.p (.int .i64 (((n+1:Nat)):Int))])):=⟨by simp,λi hi M=>by rw[List.getElem?_set_ne (λe=>M ⟨_,d,l,.inl (v.trans e)⟩),List.getElem?_set_ne (λe=>M ⟨_,b,g,.inl e⟩)],λi hi=>.inl (Gq hi)⟩;exact f.chg.trans L
 obtain⟨rs,c,t,rfl,a,G⟩:=k;exact⟨a,c,t,G⟩
theorem resW_has{H:Heap}{N:Tri}{r n:Nat}(h:Lies H N r n)(s:List UInt8)(j:s.length<=1000):resW Γ 392 [.bx r 0,.p (.str s)] H=some ([.p (.bool (bZ N (splitB 46 s)))],H):=by have b:=iI s (by omega);have k:=bz 46 s;have g:=@count_le s 46;have d:=PT (kk:=.any) h (splitB 46 s) (by omega) (gG s);cases c:N (splitB 46 s)with
 |none=>
  rw[c]at d;have e:bZ N (splitB 46 s)=false:=by simp[bZ,c]
  refine ah (fn:=gI) rfl rfl ?_;simp(disch:=first|exact Dq|fail)only[go_sem,gI,b,Lo,d,ndV,e]|some i=>rw[c]at d;have f:=h.box _ i c;rw[uB (gG s)]at f;have e:=mR c;refine ah (fn:=gI) rfl rfl ?_;simp(disch:=first|exact Dq|fail)only[go_sem,gI,b,Lo,d,ndV,f,e]
def Pruned(N:Tri):Prop:=∀q,q≠[]->(∃x,N q=some x)->∃u,bZ N (q++u)=true
structure Gone(N:Tri)(H:Heap)(r n:Nat)(p tgt:Path)(N':Tri)(H':Heap):Prop where
 lies:Lies H' N' r n
 leaf:∀q,bZ N' q=if q=tgt then false else bZ N q
 same:∀q x,N' q=some x->∃y,N q=some y/\x.b=y.b/\x.m=y.m
 out:∀q,(¬∃k t,q=p++k::t)->(∃y,N q=some y)->∃x,N' q=some x
 inn:∀k t,(∃x,N' (p++k::t)=some x)->∃u,bZ N' (p++k::t++u)=true
 chg:Chg N N' H H'
section


variable{kk:SK}{H H1:Heap}{b m b' m':Nat}{c c1:AV}{k k2:List UInt8}{rest:Path}{es es':List (PV×AV)}
end
def tI(l:List Path):Prop:=l.Pairwise (·<·)
theorem CR(a:Path):¬a<a:=List.lt_irrefl a
theorem lt_snoc(q:Path)(k:List UInt8)(t:Path):q<q++k::t:=by have :=List.append_left_lt (l₁:=q) (List.nil_lt_cons k t);grind
theorem RM(q:Path){k a:List UInt8}(h:k<a)(t b:Path):q++k::t<q++a::b:=List.append_left_lt (List.cons_lt_cons_iff.2 (.inl h))
theorem CZ(l:List (List UInt8))(d:l.Nodup):(nR l).Pairwise (·<·):=by
 have e:=oI l;have c:=(gw l).nodup_iff.2 d;exact(e.and c).imp λ{a b}h=>by grind
theorem nK{d c:Type}{R:c->c->Prop}{f:d->List c}:∀{l:List d},(∀a∈l,(f a).Pairwise R)->l.Pairwise (λa b=>∀x∈f a,∀y∈f b,R x y)->(l.flatMap f).Pairwise R
 |[],_,_=>by simp|a::l,e,g=>by grind
section


variable{H:Heap}{N:Tri}{r n:Nat}{wn:Nat->List UInt8->Bool}
theorem Mi(h:Lies H N r n){q:Path}{b:Nd}(d:N q=some b)(k:List UInt8):k∈dV b↔∃x,N (q++[k])=some x:=by
 rw[dV,(gw _).mem_iff,List.mem_map];constructor;·rintro⟨x,a,rfl⟩;let⟨e,c,_⟩:=h.kid q b d x.1 x.2 a;grind
 ·rintro⟨x,a⟩;let⟨f,c,i⟩:=h.up q k x a;grind
theorem xH(h:Lies H N r n):∀(f:Nat)(q:Path),(∀t x,N (q++t)=some x->t.length<=f)->∀p,p∈vis N wn f q↔∃k t,p=q++k::t/\(∃x,N p=some x)/\∀j,j<(k::t).length->wn (q.length+j) ((k::t).getD j [])=true:=by intro f;induction f with
 |zero=>intro q v p;simp[vis,List.not_mem_nil,];grind|succ f o=>intro q v p;cases d:N q with|none=>simp only[vis,d,List.not_mem_nil,false_iff];rintro⟨k,t,rfl,⟨x,b⟩,_⟩;obtain⟨y,s⟩:=h.pre _ _ x b;grind|some w=>
   simp only[vis,d,List.mem_flatMap];have c:∀k,∀t x,N (q++[k]++t)=some x->t.length<=f:=λk t x b=>by grind
   constructor
   ·rintro⟨k,i,e⟩;let⟨y,s⟩:=(Mi h d k).1 i;split at e
    ·rename_i g;rcases List.mem_cons.1 e with rfl|e;·grind
     ·obtain⟨k2,l,rfl,b,a⟩:=(o (q++[k]) (c k) p).1 e;refine⟨k,k2::l,by simp,b,λj u=>?_⟩;cases j with|zero=>grind|succ j=>have :=a j (by grind);rw[List.length_append,List.length_cons,List.length_nil]at this;grind
    grind
   ·rintro⟨k,t,rfl,⟨x,b⟩,a⟩;have i:=h.pre t (q++[k]) x (by grind);refine⟨k,(Mi h d k).2 i,?_⟩;have g:=a 0 (by simp);rw[Nat.add_zero,List.getD_cons_zero]at g;rw[if_pos g];cases t with|nil=>simp|cons k2 l=>refine List.mem_cons_of_mem _ ((o (q++[k]) (c k) _).2 ⟨k2,l,by simp,⟨x,b⟩,λj u=>?_⟩);have :=a (j+1) (by grind);rw[List.length_append,List.length_cons,List.length_nil];grind
theorem BR(h:Lies H N r n):∀(f:Nat)(q:Path),(∀t x,N (q++t)=some x->t.length<=f)->tI (vis N wn f q):=by intro f;induction f with|zero=>intro q _;exact .nil|succ f m=>intro q v;unfold tI;cases e:N q with|none=>simp[vis,e]|some j=>
   simp[vis,e];have a:∀k,∀t x,N (q++[k]++t)=some x->t.length<=f:=λk t x g=>by grind
   have c:∀k,∀p∈(if wn q.length k=true then(q++[k])::vis N wn f (q++[k])else[]),∃t,p=q++k::t:=λk p b=>by
    split at b
    ·rcases List.mem_cons.1 b with rfl|b;·simp
     ·obtain⟨k2,s,rfl,_⟩:=(xH h f (q++[k]) (a k) p).1 b;simp
    grind
   refine nK (λk _=>?_) ?_
   ·split;·refine List.pairwise_cons.2 ⟨λp b=>?_,m _ (a k)⟩;obtain⟨k2,s,rfl,_⟩:=(xH h f (q++[k]) (a k) p).1 b;exact lt_snoc _ _ _
    simp
   ·refine(CZ _ (h.nodup q j e)).imp λ{k l}d x g y i=>?_;obtain⟨t,rfl⟩:=c k x g;obtain⟨o,rfl⟩:=c l y i;exact RM q d t o
theorem oo{l:List Path}(h:tI l):l.Nodup:=by unfold List.Nodup;exact h.imp λ{a b}c e=>by grind
end
theorem xQ{N:Tri}:∀(l:List Path)(s:Path),l.foldl (zh N) s=s++(l.filter (bZ N)).map (bI [46])
 |[],s=>by simp|q::l,s=>by rw[List.foldl_cons,xQ l];unfold zh;grind
theorem OY(N:Tri):CT N=((vis N (λ_ _=>true) 21 []).filter (bZ N)).map (bI [46]):=by unfold CT;rw[xQ,List.nil_append]
end Ab
