import Derived.Test.YtbehhmffelnmfaaGreatDoorLOp52
import Derived.Test.YtbehhmffelnmfaaGreatDoorAbW2
set_option linter.all false
namespace Ab
theorem Iu{κ k}:res Γ 468 [hdrP κ k,hdrP κ k]=some [.bool true]:=dA 100 (by cases κ<;>cases k<;>kernel_rfl)
theorem FQ:res Γ 468 [.agg [.int .i64 0,.int .i64 0,.sl .nil 2 []],.agg [.int .i64 0,.int .i64 0,.sl .nil 2 []]]=some [.bool true]:=dA 100 (by rfl)
theorem Fm:res Γ 28 [zSer,zSer]=some [.bool true]:=dA 100 (by rfl)
section


variable{I:Ids}{N:Tri}{L:Path}{fl:Fl}{ld dr md:Int}{H:Heap}
theorem Lx:aw Γ 473=true:=rfl
theorem LV:aw Γ 639=true:=rfl
theorem wk:aw Γ 474=true:=rfl
theorem LA:aw Γ 638=true:=rfl
theorem act_info{k:SK}(P:Pr I N L fl ld dr md H)(hL:L.length<=900)(hld:0<=ld)(hdr:0<=dr)(hmd:0<=md)(now fr un:Int)(s:List UInt8)(hs:s.length<=1000)(ps:List (Int×Int)):∃H',resW Γ 636 [.bx 5 0,.p (actP 4 now fr un s k ps)] H=some ([.p (.bool true)],H')/\ActR I L ld dr md H':=by
 have hfl:=P.len;have x1:Ext0 H (H++[.box [.p (.int .i64 4),.p (.int .i64 now),.p (.int .i64 fr),.p (.int .i64 un),.p (.str s),.p (.sl k 2 (ptsP ps))]]):=.app _ _;have d:=P.ext (.ext x1);have w1:=d.w;have b1:(H++[.box [.p (.int .i64 4),.p (.int .i64 now),.p (.int .i64 fr),.p (.int .i64 un),.p (.str s),.p (.sl k 2 (ptsP ps))]])[H.length]?=some (.box [.p (.int .i64 4),.p (.int .i64 now),.p (.int .i64 fr),.p (.int .i64 un),.p (.str s),.p (.sl k 2 (ptsP ps))]):=by simp
 have key:=ci (Γ:=Γ) (f:=636) (fn:=bT) (args:=[.bx 5 0,.p (actP 4 now fr un s k ps)]) (H:=H) (K:=λrs H'=>rs=[.p (.bool true)]/\Pr I N L fl ld dr md H') rfl rfl ?_;·obtain⟨rs,H',c1,rfl,c2⟩:=key;exact⟨H',c1,N,L,fl,ld,dr,md,c2,by omega,by omega,by omega,by omega⟩
 by_cases he:errH s L=0;·obtain⟨a,a1,a2⟩:=st_info d.ps d.sb d.fit s hs he;have P2:=d.ext a2;have c:=P2.ext (Since.app a [.box (hdrA (kS s) .any)]);obtain⟨b,a3,a4⟩:=rs_info c.qs hL c.fit (by omega) s hs he;have P4:=c.ext a4;have w2:=P2.w;have w3:=c.w;have b2:=a2.box _ _ b1 (λe=>e);have b3:(a++[Blk.box (hdrA (kS s) .any)])[H.length]?=_:=(Ext0.app a _).get b2;have b4:b[a.length]?=some (.box (hdrA (kS s) .any)):=a4.box _ _ (by simp) (λe=>e);have b5:(b++[Blk.box (hdrA (kS s) .any)])[a.length]?=_:=(Ext0.app b _).get b4;have hd:=@Iu (kS s) .any;have P5:=P4.ext (Since.app b [.box (hdrA (kS s) .any)]);unfold actP;unfold hdrP at a1 a3 hd;unfold hdrA at w3 a3 b3 b5 P5;simp(disch:=first|exact Dq|fail)only[go_sem,bT,w1,af,aB,Nat.zero_add,Lx,a1,b3,w3,LV,a3,b5,hd];grind
 ·obtain⟨a,a1,a2⟩:=TY d.ps d.sb s hs he;have P2:=d.ext a2;have c:=P2.ext (Since.app a [.box [.p (.int .i64 0),.p (.int .i64 0),.p (.sl .nil 2 [])]]);obtain⟨b,a3,a4⟩:=Us c.qs hL s hs he;have P4:=c.ext a4;have w2:=P2.w;have w3:=c.w;have b2:=a2.box _ _ b1 (λe=>e);have b3:(a++[Blk.box [.p (.int .i64 0),.p (.int .i64 0),.p (.sl .nil 2 [])]])[H.length]?=_:=(Ext0.app a _).get b2;have b4:b[a.length]?=some (.box [.p (.int .i64 0),.p (.int .i64 0),.p (.sl .nil 2 [])]):=a4.box _ _ (by simp) (λe=>e);have b5:(b++[Blk.box [.p (.int .i64 0),.p (.int .i64 0),.p (.sl .nil 2 [])]])[a.length]?=_:=(Ext0.app b _).get b4;have P5:=P4.ext (Since.app b [.box [.p (.int .i64 0),.p (.int .i64 0),.p (.sl .nil 2 [])]]);have hd:=FQ;unfold actP;simp(disch:=first|exact Dq|fail)only[go_sem,bT,w1,af,aB,Nat.zero_add,Lx,a1,b3,w3,LV,a3,b5,hd];grind
end
def serP(s:List UInt8)(a b:Int)(k:SK)(v:List (Bool×Int)):PV:=.agg [.str s,.int .i64 a,.int .i64 b,.sl k 2 (vpv v),.int .i64 0]
theorem Oy{k1 k2:SK}{s:List UInt8}{a b:Int}(v:List (Bool×Int))(f:v.length<=1073741824)(Q:Out->Prop)(d:∀e H,Q (.ex 0,e,H)):∀(k i:Nat),i+k=v.length->Wp Γ jn [(2,.bx 0 0),(3,.bx 1 0),(5,.p (.int .i64 (i:Int)))] [.box [.p (.str s),.p (.int .i64 a),.p (.int .i64 b),.p (.sl k1 2 (vpv v)),.p (.int .i64 0)],.box [.p (.str s),.p (.int .i64 a),.p (.int .i64 b),.p (.sl k2 2 (vpv v)),.p (.int .i64 0)]] Q:=by intro k;induction k with
 |zero=>intro i hi;rw[aa (L:=jn) rfl];simp(disch:=first|exact Dq|fail)only[go_sem,jn];grind|succ k c=>intro i hi;have c:=c (i+1) (by omega);rw[aa (L:=jn) rfl];simp(disch:=first|exact Dq|fail)only[go_sem,jn,valP];exact c
theorem KC{k1 k2:SK}{s:List UInt8}{a b:Int}(v:List (Bool×Int))(c:v.length<=1073741824):res Γ 28 [serP s a b k1 v,serP s a b k2 v]=some [.bool true]:=by unfold serP;refine ae (fn:=vK) rfl rfl ?_;simp(disch:=first|exact Dq|fail)only[go_sem,vK,ne_eq,not_true_eq_false];refine Oy v c _ (λe H=>?_) v.length 0 (by omega);simp(disch:=first|exact Dq|fail)only[go_sem]
section


variable{I:Ids}{N:Tri}{L:Path}{fl:Fl}{ld dr md:Int}{H:Heap}
theorem act_get{k:SK}(P:Pr I N L fl ld dr md H)(hL:L.length<=900)(hld:0<=ld)(hdr:0<=dr)(hmd:0<=md)(now a b:Int)(s:List UInt8)(hs:s.length<=1000)(ps:List (Int×Int)):∃H',resW Γ 636 [.bx 5 0,.p (actP 3 now a b s k ps)] H=some ([.p (.bool true)],H')/\ActR I L ld dr md H':=by
 have hfl:=P.len;have x1:Ext0 H (H++[.box [.p (.int .i64 3),.p (.int .i64 now),.p (.int .i64 a),.p (.int .i64 b),.p (.str s),.p (.sl k 2 (ptsP ps))]]):=.app _ _;have h:=P.ext (.ext x1);have w1:=h.w;have b1:(H++[.box [.p (.int .i64 3),.p (.int .i64 now),.p (.int .i64 a),.p (.int .i64 b),.p (.str s),.p (.sl k 2 (ptsP ps))]])[H.length]?=some (.box [.p (.int .i64 3),.p (.int .i64 now),.p (.int .i64 a),.p (.int .i64 b),.p (.str s),.p (.sl k 2 (ptsP ps))]):=by simp
 have key:=ci (Γ:=Γ) (f:=636) (fn:=bT) (args:=[.bx 5 0,.p (actP 3 now a b s k ps)]) (H:=H) (K:=λrs H'=>rs=[.p (.bool true)]/\Pr I N L fl ld dr md H') rfl rfl ?_;·obtain⟨rs,H',c1,rfl,c2⟩:=key;exact⟨H',c1,N,L,fl,ld,dr,md,c2,by omega,by omega,by omega,by omega⟩
 by_cases g:errG s L now a b=0
 ·have eh:errH s L=0:=by unfold errG at g;grind
  let⟨hn,hm⟩:=qJ eh;obtain⟨B,hB,hg⟩:=h.fit.has s hm;obtain⟨d,R,a1,a2,a5,a6⟩:=QV h.ps h.sb hs g hB hg;have P2:=h.ext a2;have P3:=P2.ext (Since.app d [.box [.p (.str s),.p (.int .i64 (stG now a)),.p (.int .i64 (stp (iF now a))),.own R (nF now a b),.p (.int .i64 0)]]);obtain⟨c,R2,a3,a4,a7,a8⟩:=rs_get P3.qs hL (by omega) hs g hB hg;have P4:=P3.ext a4;have w2:=P2.w;have w3:=P3.w;have b2:=a2.box _ _ b1 (λe=>e);have b3:(d++[Blk.box [.p (.str s),.p (.int .i64 (stG now a)),.p (.int .i64 (stp (iF now a))),.own R (nF now a b),.p (.int .i64 0)]])[H.length]?=_:=(Ext0.app d _).get b2;have b4:c[d.length]?=some (.box [.p (.str s),.p (.int .i64 (stG now a)),.p (.int .i64 (stp (iF now a))),.own R (nF now a b),.p (.int .i64 0)]):=a4.box _ _ (by simp) (λe=>e);have b5:∀G,(c++G)[d.length]?=_:=λG=>(Ext0.app c G).get b4;have P5:=P4.ext (Since.app c [.box [.p (.str s),.p (.int .i64 (stG now a)),.p (.int .i64 (stp (iF now a))),.own R2 (nF now a b),.p (.int .i64 0)]]);have hd:=λk1 k2=>@KC k1 k2 s (stG now a) (stp (iF now a)) (vlF B now a b) (by have :=(endF (GY (by unfold errG at g;rwa[if_pos eh]at g)).1 (GY (by unfold errG at g;rwa[if_pos eh]at g)).2).2.2.2.2.2.1;rw[ug];omega);have vl:=@ug B now a b;have b6:∀G,rowAt (c++G)[R]? (nF now a b)=some (2,vpv (vlF B now a b)):=λG=>by obtain⟨f',h1,_⟩:=a4.row R false 2 _ ((Ext0.app d _).get a5);rw[(Ext0.app c G).get h1,jP (by rw[kg,vl])]
  have b7:∀G,rowAt (c++G)[R2]? (nF now a b)=some (2,vpv (vlF B now a b)):=λG=>by rw[(Ext0.app c G).get a7,jP (by rw[kg,vl])]
  unfold serP at hd;unfold actP;simp(disch:=first|exact Dq|fail)only[go_sem,bT,w1,af,aB,Nat.zero_add,wk,a1,b3,w3,LA,a3,b5,b6,b7,hd];grind
 ·obtain⟨d,a1,a2⟩:=Ea h.ps h.sb h.fit s hs g;have P2:=h.ext a2;have P3:=P2.ext (Since.app d [.box [.p (.str []),.p (.int .i64 0),.p (.int .i64 0),.p (.sl .nil 2 []),.p (.int .i64 0)]]);obtain⟨c,a3,a4⟩:=rs_getNo P3.qs hL P3.fit (by omega) s hs g;have P4:=P3.ext a4;have w2:=P2.w;have w3:=P3.w;have b2:=a2.box _ _ b1 (λe=>e);have b3:(d++[Blk.box [.p (.str []),.p (.int .i64 0),.p (.int .i64 0),.p (.sl .nil 2 []),.p (.int .i64 0)]])[H.length]?=_:=(Ext0.app d _).get b2;have b4:c[d.length]?=some (.box [.p (.str []),.p (.int .i64 0),.p (.int .i64 0),.p (.sl .nil 2 []),.p (.int .i64 0)]):=a4.box _ _ (by simp) (λe=>e);have b5:∀G,(c++G)[d.length]?=_:=λG=>(Ext0.app c G).get b4;have P5:=P4.ext (Since.app c [.box [.p (.str []),.p (.int .i64 0),.p (.int .i64 0),.p (.sl .nil 2 []),.p (.int .i64 0)]]);have hd:=Fm;unfold actP;unfold zSer at a1 a3 hd;simp(disch:=first|exact Dq|fail)only[go_sem,bT,w1,af,aB,Nat.zero_add,wk,a1,b3,w3,LA,a3,b5,hd];grind
end
structure Act where
 kd:Int
 now:Int
 fr:Int
 un:Int
 s:List UInt8
 k:SK
 ps:List (Int×Int)
def actC(a:Act):List PV:=[.int .i64 a.kd,.int .i64 a.now,.int .i64 a.fr,.int .i64 a.un,.str a.s,.sl a.k 2 (ptsP a.ps)]
def act0:Act:=⟨0,0,0,0,[],.nil,[]⟩
def actL(l:List Act):List PV:=aggs (l.map actC)
theorem hZ{l:List Act}:(actL l).length=l.length:=by simp[actL,aggs]
theorem act_get1{l:List Act}{i:Nat}(h:i<l.length):(l.map actC).getD i []=actC (l.getD i act0):=by grind
theorem act_ia{H:Heap}{kk:SK}{l:List Act}{i:Nat}(h:i<l.length)(b:l.length<=9223372036854775807):iaddrA H 6 (.p (.sl kk 6 (actL l))) (.p (.int .i64 (i:Int)))=some (.p (.ptr (actC (l.getD i act0)))):=by rw[<-act_get1 h];exact my (by omega) (by grind)
def ML(a:Act):Prop:=a.s.length<=210/\a.ps.length<=10
theorem JA{kk:SK}(l:List Act)(v:l.length<=9223372036854775807)(Q:Out->Prop)(b:∀e,look e 2=.p (.bool true)->Q (.ret,e,[]))(h:(∀i,i<l.length->i<60->ML (l.getD i act0))->∀e,Q (.ex 0,e,[])):∀(f i:Nat)(m:Int),i+f=60->(∀j,j<i->j<l.length->ML (l.getD j act0))->0<=m/\m<=10*i->Wp Γ cV [(0,.p (.sl kk 6 (actL l))),(3,.p (.int .i64 m)),(4,.p (.int .i64 (i:Int)))] [] Q:=by intro f;induction f with
 |zero=>
  intro i m hi r w;have d:decide ((i:Int)<60)=false:=decide_eq_false (by omega);have u:=h λj n t=>r j (by omega) n;rw[aa (L:=cV) rfl];by_cases c:i<l.length;·simp(disch:=first|exact Dq|fail)only[go_sem,cV,hZ,d,decide_eq_true (show(i:Int)<(l.length:Int)by omega)];grind
  ·simp(disch:=first|exact Dq|fail)only[go_sem,cV,hZ,decide_eq_false (show¬(i:Int)<(l.length:Int)by omega)];grind|succ f o=>
  intro i m hi r w;have d:=decide_eq_true (by omega);rw[aa (L:=cV) rfl];by_cases c:i<l.length
  ·have a:=λH=>@act_ia H kk l i c v;unfold actC at a;have k:=@sZ (l.getD i act0).ps;by_cases x:(l.getD i act0).s.length<=210
   ·by_cases q:(l.getD i act0).ps.length<=10
    ·have o:=o (i+1) (m+((l.getD i act0).ps.length:Int)) (by omega) (λj n t=>by
      by_cases e:j=i;·subst e;exact⟨x,q⟩
      grind) (by omega);by_cases g:m+((l.getD i act0).ps.length:Int)>100;·simp(disch:=first|exact Dq|fail)only[go_sem,cV,hZ,d,decide_eq_true (show(i:Int)<(l.length:Int)by omega),a,k,decide_eq_false (show¬((l.getD i act0).s.length:Int)>210 by omega),decide_eq_false (show¬((l.getD i act0).ps.length:Int)>10 by omega),decide_eq_true g];exact b _ rfl
     ·simp(disch:=first|exact Dq|fail)only[go_sem,cV,hZ,d,decide_eq_true (show(i:Int)<(l.length:Int)by omega),a,k,decide_eq_false (show¬((l.getD i act0).s.length:Int)>210 by omega),decide_eq_false (show¬((l.getD i act0).ps.length:Int)>10 by omega),decide_eq_false g];exact o
    ·simp(disch:=first|exact Dq|fail)only[go_sem,cV,hZ,d,decide_eq_true (show(i:Int)<(l.length:Int)by omega),a,k,decide_eq_false (show¬((l.getD i act0).s.length:Int)>210 by omega),decide_eq_true (show((l.getD i act0).ps.length:Int)>10 by omega)];exact b _ rfl
   ·simp(disch:=first|exact Dq|fail)only[go_sem,cV,hZ,d,decide_eq_true (show(i:Int)<(l.length:Int)by omega),a,k,decide_eq_true (show((l.getD i act0).s.length:Int)>210 by omega)];exact b _ rfl
  ·have u:=h λj n t=>r j (by omega) n;simp(disch:=first|exact Dq|fail)only[go_sem,cV,hZ,decide_eq_false (show¬(i:Int)<(l.length:Int)by omega)];grind
theorem QY{kk:SK}(l:List Act)(g:l.length<=9223372036854775807):∃b,res Γ 637 [.sl kk 6 (actL l)]=some [.bool b]/\(b=false->∀i,i<l.length->i<60->ML (l.getD i act0)):=by
 have a:=ci (Γ:=Γ) (f:=637) (fn:=rT) (args:=[.p (.sl kk 6 (actL l))]) (H:=[]) (K:=λrs _=>∃b,rs=[.p (.bool b)]/\(b=false->∀i,i<l.length->i<60->ML (l.getD i act0))) rfl rfl ?_;·obtain⟨rs,H',d,b,rfl,k⟩:=a;exact⟨b,LB (ps:=[_]) d rfl,k⟩
 simp(disch:=first|exact Dq|fail)only[go_sem,rT];refine JA l g _ (λe c=>?_) (λh e=>?_) 60 0 0 (by omega) (λj h=>by omega) (by omega);·simp(disch:=first|exact Dq|fail)only[go_sem,c];simp
 ·simp(disch:=first|exact Dq|fail)only[go_sem];grind
theorem still636:aw Γ 636=true:=rfl
theorem pr_act{I:Ids}{N:Tri}{L:Path}{v:Fl}{h i g:Int}{H:Heap}(P:Pr I N L v h i g H)(w:L.length<=80)(d:0<=h/\h<=10000)(c:0<=i/\i<=10000)(b:0<=g/\g<=100)(a:Act)(u:ML a)(r:a.kd≠5):∃H',resW Γ 636 [.bx 5 0,.p (.agg (actC a))] H=some ([.p (.bool true)],H')/\ActR I L h i g H':=by
 let⟨kd,now,e,f,s,k,ps⟩:=a;let⟨t,l⟩:=u;simp  at t l r;show∃H',resW Γ 636 [.bx 5 0,.p (actP kd now e f s k ps)] H=some ([.p (.bool true)],H')/\ActR I L h i g H';by_cases m:kd=1;·subst m;exact act_put P w d c b now e f s (by omega) ps l
 by_cases o:kd=2;·subst o;exact act_find P d.1 c.1 b.1 now e f s (by omega) ps
 by_cases n:kd=3;·subst n;exact act_get P (by omega) d.1 c.1 b.1 now e f s (by omega) ps
 by_cases q:kd=4;·subst q;exact act_info P (by omega) d.1 c.1 b.1 now e f s (by omega) ps
 exact act_none P d.1 c.1 b.1 ⟨m,o,n,q,r⟩ now e f s ps
theorem so_l2_ok{kk:SK}{I:Ids}{t s:Int}(l:List Act)(w:l.length<=9223372036854775807)(o:∀i,i<l.length->i<60->ML (l.getD i act0))(Q:Out->Prop)(n:∀e H N L k h g b,look e 1=.p (.int .i64 t)->look e 2=.p (.int .i64 s)->look e 7=.bx 5 0->Pr I N L k h g b H->L.length<=60->Q (.ex 0,e,H)):∀(f i:Nat),i+f=60->∀N L k h g b H,Pr I N L k h g b H->L.length<=i->0<=h/\h<=10*(i:Int)->0<=g/\g<=10*(i:Int)->0<=b/\b<=(i:Int)->Wp Γ bL [(0,.p (.sl kk 6 (actL l))),(1,.p (.int .i64 t)),(2,.p (.int .i64 s)),(7,.bx 5 0),(9,.p (.int .i64 (i:Int)))] H Q:=by intro f;induction f with
 |zero=>
  intro i hi N L k h g b H P B A z x;have d:decide ((i:Int)<60)=false:=decide_eq_false (by omega);rw[aa (L:=bL) rfl];by_cases c:i<l.length;·simp(disch:=first|exact Dq|fail)only[go_sem,bL,hZ,d,decide_eq_true (show(i:Int)<(l.length:Int)by omega)];exact n _ _ _ _ _ _ _ _ rfl rfl rfl P (by omega)
  ·simp(disch:=first|exact Dq|fail)only[go_sem,bL,hZ,decide_eq_false (show¬(i:Int)<(l.length:Int)by omega)];exact n _ _ _ _ _ _ _ _ rfl rfl rfl P (by omega)|succ f m=>
  intro i hi N L k h g b H P B A z x;have d:=decide_eq_true (by omega);rw[aa (L:=bL) rfl];by_cases c:i<l.length
  ·have a:=λH=>@act_ia H kk l i c w;by_cases u:(l.getD i act0).kd=5;·have m:=m (i+1) (by omega) N L k h g b H P (by omega) (by omega) (by omega) (by omega);unfold actC at a;simp(disch:=first|exact Dq|fail)only[go_sem,bL,hZ,d,decide_eq_true (show(i:Int)<(l.length:Int)by omega),a,decide_eq_false (show¬(l.getD i act0).kd≠5 by omega)];exact m
   ·let⟨H',r,y,L',q,ld',dr',md',v,F,C,D,E⟩:=pr_act P (by omega) (by omega) (by omega) (by omega) (l.getD i act0) (o i c (by omega)) u;have m:=m (i+1) (by omega) y L' q ld' dr' md' H' v (by omega) (by omega) (by omega) (by omega);unfold actC at a r;simp(disch:=first|exact Dq|fail)only[go_sem,bL,hZ,d,decide_eq_true (show(i:Int)<(l.length:Int)by omega),a,decide_eq_true u,still636,r];exact m
  ·simp(disch:=first|exact Dq|fail)only[go_sem,bL,hZ,decide_eq_false (show¬(i:Int)<(l.length:Int)by omega)];exact n _ _ _ _ _ _ _ _ rfl rfl rfl P (by omega)
theorem LW{s:List UInt8}:decide (s≠s)=false:=by simp
theorem Mu{i:Int}:decide (i≠i)=false:=by simp
section


variable{C1 C2 ru1 ru2 r1 r2 Sb1 Sb2:Nat}{N1 N2:Tri}{L:Path}{fl:Fl}{ld dr md ld2 dr2 md2:Int}{H0:Heap}
theorem so_l1_ok{q r:Nat}{f1 f2:Bool}{a b:Int}(S1:PSt C1 3 1 2 ru1 r1 rmB N1 L fl ld dr md H0)(S2:PSt C2 3 1 2 ru2 r2 rmB N2 L fl ld2 dr2 md2 H0)(b1:H0[Sb1]?=some (.box [.bx C1 0]))(b2:H0[Sb2]?=some (.box [.bx C2 0]))(y:Fit L fl)(hL:L.length<=900)(q1:H0[q]?=some (.row f1 1 (strs L)))(q2:H0[r]?=some (.row f2 1 (strs L)))(Q:Out->Prop)(hQ:∀e H,Q (.ex 2,e,H)):∀(f i:Nat)(H:Heap),i+f=L.length->Since (λ_=>False) H0 H->Wp Γ bC [(1,.p (.int .i64 a)),(2,.p (.int .i64 b)),(10,.bx Sb1 0),(11,.bx Sb2 0),(13,.own q L.length),(14,.own r L.length),(15,.p (.int .i64 (i:Int)))] H Q:=by intro f;induction f with
 |zero=>
  intro i H hi d;have hi:i=L.length:=by omega
  subst hi;let⟨g1,j,_⟩:=d.row _ _ _ _ q1;rw[aa (L:=bC) rfl];simp(disch:=first|exact Dq|fail)only[go_sem,bC,j];grind|succ f l=>
  intro i H hi d;have v:i<L.length:=by omega
  have hm:=getD_mem v;have hsl:=bA (S1.nms.ok _ hm);let⟨g1,j,_⟩:=d.row _ _ _ _ q1;let⟨g2,p2,_⟩:=d.row _ _ _ _ q2;have T1:=S1.ext d;have c1:=d.box _ _ b1 (λe=>e);by_cases o:errG (L.getD i []) L 2000 a b=0
  ·let⟨B,hB,hg⟩:=y.has _ hm;let⟨g,R,u,a2,a5,a6⟩:=QV T1 c1 (by omega) o hB hg;have h:Since (λ_=>False) H (g++[Blk.box [.p (.str (L.getD i [])),.p (.int .i64 (stG 2000 a)),.p (.int .i64 (stp (iF 2000 a))),.own R (nF 2000 a b),.p (.int .i64 0)]]):=a2.trans (Since.app g _);have T2:=S2.ext (d.trans h);have c2:=(d.trans h).box _ _ b2 (λe=>e);let⟨c,R2,t,m,a7,a8⟩:=QV T2 c2 (by omega) o hB hg;have b4:c[g.length]?=some (.box [.p (.str (L.getD i [])),.p (.int .i64 (stG 2000 a)),.p (.int .i64 (stp (iF 2000 a))),.own R (nF 2000 a b),.p (.int .i64 0)]):=m.box _ _ (by simp) (λe=>e);have b5:=λG=>(Ext0.app c G).get b4;have hk:=GY (show rgE 2000 a b=0 by unfold errG at o;omega);have vl:=@ug B 2000 a b;have s:=λk1 k2=>@KC k1 k2 (L.getD i []) (stG 2000 a) (stp (iF 2000 a)) (vlF B 2000 a b) (by have :=(endF hk.1 hk.2).2.2.2.2.2.1;grind);have b6:∀G,rowAt (c++G)[R]? (nF 2000 a b)=some (2,vpv (vlF B 2000 a b)):=λG=>by let⟨f',h1,_⟩:=m.row R false 2 _ ((Ext0.app g _).get a5);rw[(Ext0.app c G).get h1,jP (by rw[kg,vl])]
   have b7:∀G,rowAt (c++G)[R2]? (nF 2000 a b)=some (2,vpv (vlF B 2000 a b)):=λG=>by rw[(Ext0.app c G).get a7,jP (by rw[kg,vl])]
   have k:=(h.trans m).trans (Since.app c [.box [.p (.str (L.getD i [])),.p (.int .i64 (stG 2000 a)),.p (.int .i64 (stp (iF 2000 a))),.own R2 (nF 2000 a b),.p (.int .i64 0)]]);let⟨g3,p3,_⟩:=(h.row _ _ _ _ j);let⟨g5,p5,_⟩:=(k.row _ _ _ _ j);obtain⟨g6,p6,_⟩:=(k.row _ _ _ _ p2);have l:=l (i+1) _ (by omega) (d.trans k);unfold serP at s;rw[aa (L:=bC) rfl];simp(disch:=first|exact Dq|fail)only[go_sem,bC,j,wk,u,af,aB,Nat.zero_add,p3,t,p5,p6,LW,b5,b6,b7,s];exact l
  ·obtain⟨g,u,a2⟩:=Ea T1 c1 y _ (by omega) o;have h:Since (λ_=>False) H (g++[Blk.box [.p (.str []),.p (.int .i64 0),.p (.int .i64 0),.p (.sl .nil 2 []),.p (.int .i64 0)]]):=a2.trans (Since.app g _);have T2:=S2.ext (d.trans h);have c2:=(d.trans h).box _ _ b2 (λe=>e);obtain⟨c,t,m⟩:=Ea T2 c2 y _ (by omega) o;have b4:c[g.length]?=some (.box [.p (.str []),.p (.int .i64 0),.p (.int .i64 0),.p (.sl .nil 2 []),.p (.int .i64 0)]):=m.box _ _ (by simp) (λe=>e);have b5:∀G,(c++G)[g.length]?=_:=λG=>(Ext0.app c G).get b4;have s:=Fm;have k:=(h.trans m).trans (Since.app c [.box [.p (.str []),.p (.int .i64 0),.p (.int .i64 0),.p (.sl .nil 2 []),.p (.int .i64 0)]]);obtain⟨g3,p3,_⟩:=(h.row _ _ _ _ j);obtain⟨g5,p5,_⟩:=(k.row _ _ _ _ j);obtain⟨g6,p6,_⟩:=(k.row _ _ _ _ p2);have l:=l (i+1) _ (by omega) (d.trans k);unfold zSer at u t s;rw[aa (L:=bC) rfl];simp(disch:=first|exact Dq|fail)only[go_sem,bC,j,wk,u,af,aB,Nat.zero_add,p3,t,p5,p6,LW,Mu,b5,s];exact l
end
theorem Kb:aw Γ 397=true:=rfl
theorem Kg:aw Γ 469=true:=rfl
theorem still578:aw Γ 578=true:=rfl
theorem RN{C j r d:Nat}{N:Tri}{L:Path}{g:Fl}{i h f:Int}{H:Heap}(P:PSt C 3 1 2 j r rmB N L g i h f H)(s:H[d]?=some (.box [.bx C 0])):∃v H',resW Γ 469 [.bx d 0] H=some ([v],H')/\RowV H' v L/\Ext0 H H':=by
 let⟨v,H',b,a,e⟩:=op_names P.trie P.nms;refine⟨v,H',?_,a,e⟩;have c:=P.core;refine ah (fn:=eS) rfl rfl ?_;rcases a with⟨_,rfl⟩|⟨_,k,rfl,_⟩;·simp(disch:=first|exact Dq|fail)only[go_sem,eS,s,c,Kb,b]
 ·simp(disch:=first|exact Dq|fail)only[go_sem,eS,s,c,Kb,b]
theorem AK{kk:SK}(l:List Act)(J F:Int)(q:l.length<=9223372036854775807)(y:res Γ 470 []=some [.bool true]):res Γ 651 [.sl kk 6 (actL l),.int .i64 J,.int .i64 F]=some [.bool true]:=by let⟨b,s,a⟩:=@QY kk l q;cases b with
 |true=>refine ae (fn:=fS) rfl rfl ?_;simp(disch:=first|exact Dq|fail)only[go_sem,fS,s];done|false=>
  have a:=a rfl;let⟨I,N,H1,z,C⟩:=Pc;unfold t39 at z;refine ae (fn:=fS) rfl rfl ?_;simp(disch:=first|exact Dq|fail)only[go_sem,fS,s,still578,z];refine so_l2_ok l q a _ (λe H N L fl ld dr Z k p t P hL=>?_) 60 0 (by omega) _ _ _ _ _ _ _ C (by simp) (by omega) (by omega) (by omega);have w:=P.w;have D:=P.len;let⟨Q,C2,O,Y,X,H2,j,V,A,u,b5,W⟩:=Rc P.ps.fs P.fit P.ps.nms (by omega);have n:=P.ps.ext (.ext u);have f:=u.get P.sb;let⟨v1,H3,v,R,h⟩:=RN n f;have m:=A.ext (.ext h);have g:=h.get V;let⟨v2,G,x,o,c⟩:=RN m g;have E:=(n.ext (.ext h)).ext (.ext c);have B:=m.ext (.ext c);have M:=c.get (h.get f);have S:=c.get g;unfold t39 at w j;rcases R with⟨rfl,rfl⟩|⟨i,U,rfl,K⟩
  ·rcases o with⟨_,rfl⟩|⟨i,_⟩;·simp(disch:=first|exact Dq|fail)only[go_sem,k,p,t,w,CK,j,Kg,v,x];rw[aa (L:=bC) rfl];simp(disch:=first|exact Dq|fail)only[go_sem,bC,y];done
   grind
  ·rcases o with⟨e,_⟩|⟨_,T,rfl,r⟩;·grind
   ·have d:=c.get K;simp(disch:=first|exact Dq|fail)only[go_sem,k,p,t,w,CK,j,Kg,v,x,d,r,Mu];refine so_l1_ok E B M S P.fit (by omega) d r _ (λe H=>?_) L.length 0 G (by omega) (.refl _);simp(disch:=first|exact Dq|fail)only[go_sem,y];done
theorem MX:∃n r,callOf Γ (ev Γ n) 470 ((List.map .p ([]:List PV))) []=some r/\mapO (aI r.2 4) r.1=some [.bool true]:=⟨1000,([.p (.bool true)],(callOf Γ (ev Γ 1000) 470 [] []).elim [] (·.2)),by kernel_rfl,by kernel_rfl⟩
theorem Jo:res Γ 470 []=some [.bool true]:=nM MX
def toAct(a:ActV):Act:=⟨a.1,a.2.1,a.2.2.1,a.2.2.2.1,a.2.2.2.2.1,a.2.2.2.2.2.1,a.2.2.2.2.2.2⟩
theorem xe{kk:SK}(l:List ActV)(a c:Int)(b:l.length<=Go.maxLen)(_:-9223372036854775808<=a/\a<=9223372036854775807)(_:-9223372036854775808<=c/\c<=9223372036854775807):res Γ 651 [.sl kk 6 (aggs (l.map actV)),.int .i64 a,.int .i64 c]=some [.bool true]:=by
 have e:aggs (l.map actV)=actL (l.map toAct):=by unfold actL;rw[List.map_map];rfl
 rw[e];refine AK _ a c ?_ Jo;rw[List.length_map];refine Nat.le_trans b ?_;decide
end Ab
