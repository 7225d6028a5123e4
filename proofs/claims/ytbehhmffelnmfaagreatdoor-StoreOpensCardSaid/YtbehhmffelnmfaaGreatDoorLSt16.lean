import Derived.Test.YtbehhmffelnmfaaGreatDoorLOp15
set_option linter.all false
namespace Ab
section


variable{F Pd M room:Nat}{Z:Nat->Prop}{H0 H:Heap}{l:Fl}{c:Nat}{s:List UInt8}{κ:Bool}{B:List UInt8}
def zSer:PV:=.agg [.str [],.int .i64 0,.int .i64 0,.sl .nil 2 [],.int .i64 0]
def rgE(now fr un:Int):Int:=if 1<=now/\now<=4294967295 then(if fr<=un/\fr<=now/\0<=un/\now-600<=un then 0 else 7)else 1
theorem PH(h:FsS F Pd M room Z H0 l c H)(y:1<=s.length/\s.length<=255)(C:IsF κ B)(D:fget s l=some B){now k f:Int}(q:rgE now k f≠0):∃u,resW Γ 478 [.bx F 0,.p (.str s),.p (.int .i64 now),.p (.int .i64 k),.p (.int .i64 f)] H=some ([.p zSer,.p (.int .i64 (rgE now k f))],u)/\Since (λ_=>False) H u:=by
 have t:Since (λ_=>False) H (H++[.box [.p (.str []),.p (.int .i64 0),.p (.int .i64 0),.p (.sl .nil 2 []),.p (.int .i64 0)]]):=Since.app _ _;let⟨z,xb,j,r,g,E,G⟩:=xm (h.keep t) y C D;have b:=tw now;have d:=@Ew κ .any;have i:=r.box H.length _ (by rw[af];rfl) (λe=>e);have a:=CU i;refine⟨z,ah (fn:=cz) rfl rfl ?_,t.trans r⟩;unfold fA arcP at g;unfold hdrP arcP at d;unfold rgE at q⊢;by_cases m:1<=now/\now<=4294967295
 ·rw[decide_eq_true m.1,decide_eq_true m.2,Bool.and_self]at b;rw[if_pos m]at q⊢;have w:=λh=>q (if_pos h);rw[if_neg w];by_cases n:f<k;·simp(disch:=first|exact Dq|fail)only[go_sem,cz,jC,j,g,i,a,b,d,decide_eq_true n];rfl
  ·by_cases o:now<k;·simp(disch:=first|exact Dq|fail)only[go_sem,cz,jC,j,g,i,a,b,d,decide_eq_false n,decide_eq_true o];rfl
   ·by_cases v:f<0;·simp(disch:=first|exact Dq|fail)only[go_sem,cz,jC,j,g,i,a,b,d,decide_eq_false n,decide_eq_false o,decide_eq_true v];rfl
    ·have A:f<now-600:=by omega
     simp(disch:=first|exact Dq|fail)only[go_sem,cz,jC,j,g,i,a,b,d,decide_eq_false n,decide_eq_false o,decide_eq_false v,decide_eq_true A];rfl
 ·have x:(decide (1<=now)&&decide (now<=4294967295))=false:=by grind
  rw[x]at b;rw[if_neg m];simp(disch:=first|exact Dq|fail)only[go_sem,cz,jC,j,g,i,a,b,d];rfl
theorem max2{a b:Int}:minmax true [.p (.int .i64 a),.p (.int .i64 b)]=some (.p (.int .i64 (if a<b then b else a))):=rfl
theorem wh_fetch(h:FsS F Pd M room Z H0 l c H)(hs:1<=s.length/\s.length<=255)(hB:IsF κ B)(hg:fget s l=some B){now a d:Int}(hn:1<=now/\now<=4294967295)(hk:okF now a d):∃g R,resW Γ 478 [.bx F 0,.p (.str s),.p (.int .i64 now),.p (.int .i64 a),.p (.int .i64 d)] H=some ([.agg [.p (.str s),.p (.int .i64 (stG now a)),.p (.int .i64 (stp (iF now a))),.own R (nF now a d),.p (.int .i64 0)],.p (.int .i64 0)],g)/\Since (λ_=>False) H g/\g[R]?=some (.row false 2 (vpv (vlF B now a d)))/\H.length<=R:=by
 have x1:Since (λ_=>False) H (H++[.box [.p (.str []),.p (.int .i64 0),.p (.int .i64 0),.p (.sl .nil 2 []),.p (.int .i64 0)]]):=Since.app _ _;let⟨j,xb,a1,a2,a3,a4,a5⟩:=xm (h.keep x1) hs hB hg;have e1:=tw now;have e2:=@Ew κ .any;have b1:=a2.box H.length _ (by rw[af];rfl) (λe=>e);rw[decide_eq_true hn.1,decide_eq_true hn.2,Bool.and_self]at e1;obtain⟨f0,f1,u0,u1,n1,n2,s1,s2,s3,s4⟩:=endF hn hk;obtain⟨k1,k2,k3,k4⟩:=hk;have d1:decide (d<a)=false:=decide_eq_false (by omega);have d2:decide (now<a)=false:=decide_eq_false (by omega);have d3:decide (d<0)=false:=decide_eq_false (by omega);have d4:decide (d<now-600)=false:=decide_eq_false (by omega);have r:=a3;unfold fA arcP at r;unfold hdrP arcP at e2;have m3:minmax true [.p (.int .i64 0),.p (.int .i64 a),.p (.int .i64 (now-600))]=some (.p (.int .i64 (fF now a))):=rfl;have m2:minmax false [.p (.int .i64 d),.p (.int .i64 now)]=some (.p (.int .i64 (uF now d))):=rfl;have st10:1<=stp (iF now a)/\stp (iF now a)<=10:=by cases iF now a<;>simp[stp]
 have q:=@nW (iF now a) (fF now a+stp (iF now a)) (by omega);have t:=@nW (iF now a) (uF now d+stp (iF now a)) (by omega);rw[s2]at q;have key:=ci (Γ:=Γ) (f:=478) (fn:=cz) (args:=[.bx F 0,.p (.str s),.p (.int .i64 now),.p (.int .i64 a),.p (.int .i64 d)]) (H:=H) (K:=λrs g=>∃R,rs=[.agg [.p (.str s),.p (.int .i64 (stG now a)),.p (.int .i64 (stp (iF now a))),.own R (nF now a d),.p (.int .i64 0)],.p (.int .i64 0)]/\Since (λ_=>False) H g/\g[R]?=some (.row false 2 (vpv (vlF B now a d)))/\H.length<=R) rfl rfl ?_;·grind
 have hi:iF now a=decide (60<now-fF now a):=rfl;have G3:∀G:Heap,(j++G)[xb]?=some (.box (fA F s (H++[Blk.box [.p (.str []),.p (.int .i64 0),.p (.int .i64 0),.p (.sl .nil 2 []),.p (.int .i64 0)]]).length κ)):=λG=>(Ext0.app j G).get a3;unfold fA arcP at G3;have fin:∀e g V,look e 10=.bx H.length 0->look e 17=.bx j.length 0->g[j.length]?=some (.box [.p (.str s),.p (.int .i64 (stG now a)),.p (.int .i64 (stp (iF now a))),V,.p (.int .i64 0)])->Ext0 j g->VR j g j.length V (vlF B now a d)->Wp Γ (.seq (.ops [10,11] [⟨some 147,none,.inl (.load 5 true (.v 17))⟩,⟨none,none,.inr (.store 5 (.v 10) (.v 147))⟩,⟨some 11,none,.inl (.mov (.c (.int .i64 0)))⟩]) .ret) e g (CH [.cell 10 5 true,.slot 11] (λrs g=>∃R,rs=[.agg [.p (.str s),.p (.int .i64 (stG now a)),.p (.int .i64 (stp (iF now a))),.own R (nF now a d),.p (.int .i64 0)],.p (.int .i64 0)]/\Since (λ_=>False) H g/\g[R]?=some (.row false 2 (vpv (vlF B now a d)))/\H.length<=R)):=by
  intro e g V o m hb hE hV;have nl:=@ug B now a d;have hb1:=hE.get b1;rcases hV with⟨h1,_⟩|⟨R,rfl,v1,v2,v3,v4⟩;·grind
  ·rw[nl]at*;have hl:H.length<g.length:=by grind
   have hE2:Since (λ_=>False) H (g.set H.length (.box [.p (.str s),.p (.int .i64 (stG now a)),.p (.int .i64 (stp (iF now a))),.own R (nF now a d),.p (.int .i64 0)])):=((x1.trans a2).trans (.ext hE)).set (.inr (Nat.le_refl _));have v5:(g.set H.length (.box [.p (.str s),.p (.int .i64 (stG now a)),.p (.int .i64 (stp (iF now a))),.own R (nF now a d),.p (.int .i64 0)]))[R]?=some (.row false 2 (vpv (vlF B now a d))):=by grind
   have v6:∀b,(g.set H.length b)[H.length]?=some b:=λb=>List.getElem?_set_self hl;simp(disch:=first|exact Dq|fail)only[go_sem,o,m,hb,hb1,v6];grind
 have X0:∀b,(j++[b])[j.length]?=some b:=λb=>by simp
 cases k:iF now a;·have fe:=Lh (s:=s) (T:=H.length) (X:=j.length) a3 a4 hB.len (i:=false) (st:=stG now a) (en:=if al false (uF now d+stp false)<stG now a+stp false then stG now a+stp false else al false (uF now d+stp false)) (n:=nF now a d) (by omega) s1 (by grind) (by grind) (Nat.le_refl _) (nm:=.str s) rfl;have ff:=fin;rw[k]at ff;rw[k]at hi q t;simp only[stp,ixI,Bool.false_eq_true,if_false]at q t fe;simp(disch:=first|exact Dq|fail)only[go_sem,cz,jC,a1,r,e1,e2,d1,d2,d3,d4,m3,m2];rw[aa (L:=cC) rfl];simp(disch:=first|exact Dq|fail)only[go_sem,cC,r,<-hi,q,t,af,aB,List.length_append,Nat.zero_add,max2];refine fe _ (λe g V o m hb hE hV=>?_) (nF now a d) 0 _ _ (stG now a) (by simp) (by omega) (Ext0.app _ _) (X0 _) (.inl ⟨rfl,rfl⟩);have f2:=ff [(10,.bx H.length 0),(17,.bx j.length 0)] _ _ rfl rfl hb hE (by simp only[vlF,k];exact hV);simp(disch:=first|exact Dq|fail)only[go_sem,o,m]at f2⊢;grind
 ·have fe:=Lh (s:=s) (T:=H.length) (X:=j.length) a3 a4 hB.len (i:=true) (st:=stG now a) (en:=if al true (uF now d+stp true)<stG now a+stp true then stG now a+stp true else al true (uF now d+stp true)) (n:=nF now a d) (by omega) s1 (by grind) (by grind) (Nat.le_refl _) (nm:=.str s) rfl;have ff:=fin;rw[k]at ff;rw[k]at hi q t;simp only[stp,ixI,if_true]at q t fe;simp(disch:=first|exact Dq|fail)only[go_sem,cz,jC,a1,r,e1,e2,d1,d2,d3,d4,m3,m2];rw[aa (L:=cC) rfl];simp(disch:=first|exact Dq|fail)only[go_sem,cC,r,<-hi];change Wp Γ cC _ _ _;rw[aa (L:=cC) rfl];simp(disch:=first|exact Dq|fail)only[go_sem,cC,r,q,t,af,aB,List.length_append,Nat.zero_add,max2];refine fe _ (λe g V o m hb hE hV=>?_) (nF now a d) 0 _ _ (stG now a) (by simp) (by omega) (Ext0.app _ _) (X0 _) (.inl ⟨rfl,rfl⟩);have f2:=ff [(10,.bx H.length 0),(17,.bx j.length 0)] _ _ rfl rfl hb hE (by simp only[vlF,k];exact hV);simp(disch:=first|exact Dq|fail)only[go_sem,o,m]at f2⊢;grind
end
theorem still512:aw Γ 512=true:=rfl
def newF(κ:Bool):List UInt8:=CA κ (List.replicate 1440 0)
theorem Ij{κ}:IsF κ (newF κ):=⟨Sw List.length_replicate,List.take_left' pQ⟩
section


variable{F Pd M room:Nat}{Z:Nat->Prop}{H0 H:Heap}{l:Fl}{c:Nat}{s:List UInt8}{κ:Bool}{B:List UInt8}
def hdrA(κ:Bool)(k:SK):List AV:=[.p (.int .i64 (agI κ)),.p (.int .i64 (xfI κ)),.p (arcP k)]
theorem SJ(h:FsS F Pd M room Z H0 l c H)(j:1<=s.length/\s.length<=255)(y:fget s l=none){k:SK}(m:c<=1000)(w:room<=1000000000)(A:used l+1480<=room):∃b,resW Γ 492 [.bx F 0,.p (.str s),.p (hdrP κ k)] H=some ([.p (.int .i64 0)],b)/\FsS F Pd M room Z H0 (fput s (newF κ) l) 0 b/\SinceB (λi=>i=Pd\/i=M) H b:=by
 have t:=h.keep (Since.app H [.box (hdrA κ k)]);let⟨H1,a,u,q⟩:=UO t j.1 j.2 y (k:=.tight) (k1:=.any) (k2:=.any) (hdrB κ) (List.replicate 1440 0) (by rw[pQ];simp) (by grind) (by simp[hdrB]) m w (by rw[List.length_replicate,pQ];omega);let⟨n,o,z,x⟩:=Tz u;refine⟨n,?_,z,((SinceB.app H _).trans q).trans x⟩;have g:=@Hp κ k;have e:=@Hg κ k;have v:ao (List.replicate 1440 0)=ints .u8 (List.replicate 1440 0):=by simp only[ao,ints,List.map_replicate];rfl
 rw[v]at a;have r:(ao (hdrB κ)).length=40:=rfl;have d:((40:Nat):Int)=40:=rfl;unfold hdrA arcP at a;unfold hdrP arcP at g e;refine ah (fn:=jE) rfl rfl ?_;simp(disch:=first|exact Dq|fail)only[go_sem,jE,hdrP,arcP,g,e,dB,r,d,still512,LS,a,o,Tr];done
theorem wh_info(h:FsS F Pd M room Z H0 l c H)(t:1<=s.length/\s.length<=255)(n:IsF κ B)(q:fget s l=some B):∃g,resW Γ 480 [.bx F 0,.p (.str s)] H=some ([.p (hdrP κ .any),.p (.int .i64 0)],g)/\Since (λ_=>False) H g:=by have k:Since (λ_=>False) H (H++[.box [.p (.int .i64 0),.p (.int .i64 0),.p (.sl .nil 2 [])]]):=Since.app _ _;let⟨r,xb,o,f,d,w,v⟩:=xm (h.keep k) t n q;have j:=f.box H.length _ (by rw[af];rfl) (λe=>e);have m:=(List.getElem?_eq_some_iff.1 j).1;have u:∀b,(r.set H.length b)[H.length]?=some b:=λb=>List.getElem?_set_self m;refine⟨_,ah (fn:=lP) rfl rfl ?_,(k.trans f).set (i:=H.length) (b:=.box (hdrA κ .any)) (.inr (Nat.le_refl _))⟩;unfold fA arcP at d;simp(disch:=first|exact Dq|fail)only[go_sem,lP,jC,o,d,j,u];exact⟨rfl,rfl⟩
end
theorem pS{Γ:Ctx}{k f:Nat}{xs:List AV}{HL:Heap}{r:List AV×Heap}(n:Nat)(h:((callOf Γ (ev Γ n) f xs HL).bind (tidy k))=some r):resM Γ k f xs HL=some r:=by let⟨x,b,a⟩:=Option.bind_eq_some_iff.1 h;exact wK ⟨n,x,b,a⟩
theorem tZ:ak []=[.nov,.nov]:=rfl
def setB(ρ:Bool):List UInt8:=if ρ then[98,98]else[0,9,11,255]
def inB(ρ:Bool)(c:Nat):Bool:=if ρ then decide (c=98)else decide (c≠10)
def DL(ρ:Bool):List PV:=[.agg [.int .i64 4,.int .i64 0,.int .i64 0,.str []],.agg [.int .i64 1,.int .i64 0,.int .i64 0,.str (setB ρ)],.agg [.int .i64 4,.int .i64 1,.int .i64 0,.str []],.agg [.int .i64 7,.int .i64 0,.int .i64 0,.str []]]
def jg(ρ:Bool):PV:=.sl .any 4 (DL ρ)
def wkX(ρ:Bool)(t:List UInt8):Blk:=.box [.p (.int .i64 0),.p (jg ρ),.p (.str t)]
def wyX(p q a:Int):PV:=.agg [.sl .any 1 [.int .i64 p,.int .i64 q],.int .i64 a]
def nlX(m:Nat):Blk:=.box [.p (.sl .nil 2 []),.mp m]
def mpX(l:List Int):Blk:=.box ([.nov,.nov]++l.flatMap λi=>[AV.p (.int .i64 i),.p (.bool true)])
theorem QN{ρ:Bool}(c:Nat)(hc:c<256):res Γ 358 [.str (setB ρ),.int .u8 (c:Int)]=some [.bool (inB ρ c)]:=wg (a:=λc=>[.str (setB ρ),.int .u8 (c:Int)]) (r:=λc=>[.bool (inB ρ c)]) 100 256 (by cases ρ<;>kernel_rfl) c hc
section


variable{ρ:Bool}{t:List UInt8}
theorem add0(k:Int):resM Γ 3 351 [.bx 0 0,.bx 1 0,.p (wyX (-1) (-1) 0),.p (.int .i64 k)] [wkX ρ t,nlX 2,mpX []]=some ([],[wkX ρ t,.box [.own 3 1,.mp 2],mpX [0,1],.row false 2 [wyX k (-1) 1]]):=pS 100 (by cases ρ<;>kernel_rfl)
theorem add1(p q k:Int):resM Γ 4 351 [.bx 0 0,.bx 1 0,.p (wyX (-1) (-1) 0),.p (.int .i64 k)] [wkX ρ t,.box [.own 2 1,.mp 3],.row false 2 [wyX p q 3],mpX [2,3]]=some ([],[wkX ρ t,.box [.own 2 2,.mp 3],.row false 2 [wyX p q 3,wyX k (-1) 1],mpX [2,3,0,1]]):=pS 100 (by cases ρ<;>kernel_rfl)
theorem add2(p k:Int):resM Γ 3 351 [.bx 0 0,.bx 1 0,.p (wyX p (-1) 2),.p (.int .i64 k)] [wkX ρ t,nlX 2,mpX []]=some ([],[wkX ρ t,.box [.own 3 1,.mp 2],mpX [2,3],.row false 2 [wyX p k 3]]):=pS 100 (by cases ρ<;>kernel_rfl)
theorem stepMet(p q k j:Int):resM Γ 4 350 [.bx 0 0,.bx 1 0,.p (.int .i64 k)] [wkX ρ t,.box [.own 2 2,.mp 3],.row false 2 [wyX p q 3,wyX j (-1) 1],mpX [2,3,0,1]]=some ([.bx 4 0,.p (.sl .any 1 [.int .i64 p,.int .i64 q]),.p (.bool true)],[wkX ρ t,.box [.own 2 2,.mp 3],.row false 2 [wyX p q 3,wyX j (-1) 1],mpX [2,3,0,1],nlX 5,mpX []]):=pS 100 (by cases ρ<;>kernel_rfl)
theorem Di:ir Γ 3 351=true:=by rfl
theorem st351_4:ir Γ 4 351=true:=by rfl
theorem Db:ir Γ 4 350=true:=by rfl
end
theorem refs_mp{b}:AV.refs (.mp b)=[b]:=rfl
theorem ren_mp{r d b}:AV.ren r d (.mp b)=(r b).map .mp:=by cases d<;>rfl
attribute[go_sem]refs_mp ren_mp
theorem lkW{a b c:Int}:Aq (some (.row false 2 [.agg [.sl .any 1 [.int .i64 a,.int .i64 b],.int .i64 c]])) 2 true 1 0 0=some (.p (.agg [.sl .any 1 [.int .i64 a,.int .i64 b],.int .i64 c])):=rfl
section


variable{ρ:Bool}{t:List UInt8}
theorem stepNo(k:Nat)(e:k=t.length\/k<t.length/\inB ρ (t.getD k 0).toNat=false)(c:t.length<=100000):resM Γ 4 350 [.bx 0 0,.bx 1 0,.p (.int .i64 (k:Int))] [wkX ρ t,.box [.own 2 1,.mp 3],.row false 2 [wyX k (-1) 1],mpX [0,1]]=some ([.bx 4 0,.p (.sl .nil 1 []),.p (.bool false)],[wkX ρ t,.box [.own 2 1,.mp 3],.row false 2 [wyX k (-1) 1],mpX [0,1],nlX 5,mpX []]):=by
 have b:res Γ 358 [.str (setB ρ),.int .u8 (byt t k)]=some [.bool (inB ρ (t.getD k 0).toNat)]:=@QN ρ (t.getD k 0).toNat (t.getD k 0).toNat_lt;simp[wkX,wyX,mpX,nlX,jg,DL,];refine eK (fn:=fX) rfl rfl ?_;simp(disch:=first|exact Dq|fail)only[go_sem,fX,tZ];rw[aa (L:=aM) rfl];simp(disch:=first|exact Dq|fail)only[go_sem,Ha];rcases e with rfl|⟨f,d⟩;·simp(disch:=first|exact Dq|fail)only[go_sem,aM,lkW];change Wp Γ aM _ _ _;rw[aa (L:=aM) rfl];simp(disch:=first|exact Dq|fail)only[go_sem,aM,Ha];done
 ·rw[d]at b;simp(disch:=first|exact Dq|fail)only[go_sem,aM,lkW,b];change Wp Γ aM _ _ _;rw[aa (L:=aM) rfl];simp(disch:=first|exact Dq|fail)only[go_sem,aM,Ha];done
theorem stepYes(k:Nat)(e:k<t.length)(d:inB ρ (t.getD k 0).toNat=true)(f:t.length<=100000):resM Γ 4 350 [.bx 0 0,.bx 1 0,.p (.int .i64 (k:Int))] [wkX ρ t,.box [.own 2 1,.mp 3],.row false 2 [wyX k (-1) 1],mpX [0,1]]=some ([.bx 4 0,.p (.sl .nil 1 []),.p (.bool false)],[wkX ρ t,.box [.own 2 1,.mp 3],.row false 2 [wyX k (-1) 1],mpX [0,1],.box [.own 5 1,.mp 6],.row false 2 [wyX k ((k:Int)+1) 3],mpX [2,3]]):=by have c:res Γ 358 [.str (setB ρ),.int .u8 (byt t k)]=some [.bool (inB ρ (t.getD k 0).toNat)]:=@QN ρ (t.getD k 0).toNat (t.getD k 0).toNat_lt;rw[d]at c;have b:=@add2 ρ t k ((k:Int)+1);simp[wkX,wyX,mpX,nlX,jg,DL,]at b⊢;refine eK (fn:=fX) rfl rfl ?_;simp(disch:=first|exact Dq|fail)only[go_sem,fX,tZ];rw[aa (L:=aM) rfl];simp(disch:=first|exact Dq|fail)only[go_sem,Ha];simp(disch:=first|exact Dq|fail)only[go_sem,aM,lkW,c,b,Di];change Wp Γ aM _ _ _;rw[aa (L:=aM) rfl];simp(disch:=first|exact Dq|fail)only[go_sem,aM,Ha]
end
abbrev fE(t:List UInt8)(v:PV)(b:Bool)(k:Nat):Env:=[(1,.p (.str t)),(8,.bx 0 0),(9,.p (.sl .any 1 [.int .i64 (-1),.int .i64 (-1)])),(10,.bx 1 0),(11,.p v),(12,.p (.bool b)),(13,.p (.int .i64 (k:Int)))]
section


variable{ρ:Bool}{t:List UInt8}
theorem fn_s2(c:t.length<=100000)(v:PV)(k:Nat)(f:k<=t.length+1)(Q:Out->Prop)(g:∀d,Q (.nrm,[(11,.p v),(12,.p (.bool true))],d))(e:Env)(H:Heap)(b:norm [1,8,9,10,11,12,13] (some 0) e H=some (fE t v true k,[wkX ρ t,nlX 2,mpX []])):Wp Γ dp e H (aW [11,12] 0 Q):=by
 simp[nlX,]at b;rw[aa (L:=dp) rfl];rw[b];by_cases h:k<=t.length;·simp(disch:=first|exact Dq|fail)only[go_sem,decide_eq_true (show(k:Int)<=(t.length:Int)by omega)];grind
 ·simp(disch:=first|exact Dq|fail)only[go_sem,decide_eq_false (show¬(k:Int)<=(t.length:Int)by omega)];grind
theorem fn_s1(f:t.length<=100000)(p q:Int)(k:Nat)(i:k<=t.length)(Q:Out->Prop)(g:∀(p q:Int)h,Q (.nrm,[(11,.p (.sl .any 1 [.int .i64 p,.int .i64 q])),(12,.p (.bool true))],h))(e:Env)(H:Heap)(c:norm [1,8,9,10,11,12,13] (some 0) e H=some (fE t (.sl .nil 1 []) false k,[wkX ρ t,.box [.own 2 1,.mp 3],.row false 2 [wyX p q 3],mpX [2,3]])):Wp Γ dp e H (aW [11,12] 0 Q):=by have I:=@fn_s2 ρ t f (.sl .any 1 [.int .i64 p,.int .i64 q]) (k+1) (by omega) Q (g p q);have d:=@add1 ρ t p q k;have b:=@stepMet ρ t p q k k;simp[wkX,mpX,nlX,wyX,]at c I d b;rw[aa (L:=dp) rfl];rw[c];simp(disch:=first|exact Dq|fail)only[go_sem,d,st351_4,b,Db];refine I _ _ ?_;rfl
theorem fn_s0(j:t.length<=100000)(Q:Out->Prop):∀(f k:Nat),k+f=t.length->((t.drop k).any (λc=>inB ρ c.toNat)=true->∀(p q:Int)m,Q (.nrm,[(11,.p (.sl .any 1 [.int .i64 p,.int .i64 q])),(12,.p (.bool true))],m))->((t.drop k).any (λc=>inB ρ c.toNat)=false->∀m,Q (.nrm,[(11,.p (.sl .nil 1 [])),(12,.p (.bool false))],m))->∀(e:Env)(H:Heap),norm [1,8,9,10,11,12,13] (some 0) e H=some (fE t (.sl .nil 1 []) false k,[wkX ρ t,nlX 2,mpX []])->Wp Γ dp e H (aW [11,12] 0 Q):=by intro f;induction f with
 |zero=>
  intro k n i d e H b;have n:k=t.length:=by omega
  subst n;rw[List.drop_length]at d;have d:=d rfl;have g:=@add0 ρ t (t.length:Int);have a:=@stepNo ρ t t.length (.inl rfl) j;simp[wkX,mpX,nlX,wyX,]at b g a;rw[aa (L:=dp) rfl];rw[b];simp(disch:=first|exact Dq|fail)only[go_sem,g,Di,a,Db];rw[aa (L:=dp) rfl];simp(disch:=first|exact Dq|fail)only[go_sem,Bt];grind|succ f s=>
  intro k n i d e H b;have h:k<t.length:=by omega
  have g:=@add0 ρ t (k:Int);have r:t.drop k=t.getD k 0::t.drop (k+1):=by simp[*]
  rw[r,List.any_cons]at i d;cases l:inB ρ (t.getD k 0).toNat;·rw[l,Bool.false_or]at i d;have I:=s (k+1) (by omega) i d;have a:=@stepNo ρ t k (.inr ⟨h,l⟩) j;simp[wkX,mpX,nlX,wyX,jg,DL,List.flatMap_cons,List.flatMap_nil,List.cons_append,List.nil_append,List.append_nil]at b g a I;rw[aa (L:=dp) rfl];rw[b];simp(disch:=first|exact Dq|fail)only[go_sem,g,Di,a,Db];refine I _ _ ?_;rfl
  ·have I:=@fn_s1 ρ t j k ((k:Int)+1) (k+1) (by omega) Q (i (by grind));have a:=@stepYes ρ t k h l j;simp[wkX,mpX,nlX,wyX,jg,DL,List.flatMap_cons,List.flatMap_nil,List.cons_append,List.nil_append,List.append_nil]at b g a I;rw[aa (L:=dp) rfl];rw[b];simp(disch:=first|exact Dq|fail)only[go_sem,g,Di,a,Db];refine I _ _ ?_;rfl
end
theorem LB{Γ:Ctx}{f:Nat}{ps rs:List PV}{a:List AV}{H:Heap}(h:resW Γ f (ps.map .p) []=some (a,H))(c:mapO (aI H 4) a=some rs):res Γ f ps=some rs:=by let⟨n,b⟩:=JR h;exact nM ⟨n,_,b,c⟩
def exB(ρ:Bool)(t:List UInt8):Bool:=t.any λc=>inB ρ c.toNat
theorem res_find{ρ:Bool}{t:List UInt8}(l:t.length<=100000):∃v,res Γ 338 [.agg [.int .i64 0,jg ρ],.str t,.int .i64 0]=some [v,.bool (exB ρ t)]:=by
 have d:res Γ 352 [.sl .tight 1 [.int .i64 (-1)],.int .i64 2]=some [.sl .any 1 [.int .i64 (-1),.int .i64 (-1)]]:=dA 200 (by rfl);have e:=ci (Γ:=Γ) (f:=338) (fn:=rY) (args:=[.p (.agg [.int .i64 0,jg ρ]),.p (.str t),.p (.int .i64 0)]) (H:=[]) (K:=λrs _=>∃v,rs=[.p v,.p (.bool (exB ρ t))]) rfl rfl ?_;·obtain⟨rs,g,i,v,rfl⟩:=e;exact⟨v,LB (ps:=[_,_,_]) i rfl⟩
 have j:∀a b:Int,res Γ 349 [.sl .any 1 [.int .i64 a,.int .i64 b]]=some [.sl .any 1 [.int .i64 a,.int .i64 b]]:=λa b=>dA 100 (by rfl);have k:res Γ 349 [.sl .nil 1 []]=some [.sl .nil 1 []]:=dA 100 (by rfl);unfold exB;simp(disch:=first|exact Dq|fail)only[go_sem,rY,jg,d,tZ];refine fn_s0 (ρ:=ρ) l _ t.length 0 (by omega) (λh p q g=>?_) (λh g=>?_) _ _ ?_;·rw[List.drop_zero]at h;simp(disch:=first|exact Dq|fail)only[go_sem,j,h];simp
 ·rw[List.drop_zero]at h;simp(disch:=first|exact Dq|fail)only[go_sem,k,h];simp
 rfl
theorem res_is{ρ:Bool}{t:List UInt8}(b:t.length<=100000):res Γ 529 [.agg [.int .i64 0,jg ρ],.str t]=some [.bool (exB ρ t)]:=by let⟨v,h⟩:=@res_find ρ t b;unfold jg at h⊢;refine ae (fn:=Cj) rfl rfl ?_;simp(disch:=first|exact Dq|fail)only[go_sem,Cj,h]
def schP:PV:=.agg [.str [46],arcP .any,.int .i64 0,jg false]
def rulP:PV:=.agg [.str [98],.int .i64 4,.int .i64 0,.int .i64 0,jg true]
theorem res_ixf{s:List UInt8}(d:s.length<=1000)(h:exB false s=true):res Γ 511 [.sl .any 4 [schP],.clo 510 [.ptr [.str s]]]=some [.int .i64 0]:=by
 have b:=@res_is false s (by omega);rw[h]at b;unfold jg at b;have c:res Γ 510 [schP,.ptr [.str s]]=some [.bool true]:=by unfold schP arcP jg;refine ae (fn:=eE) rfl rfl ?_;simp(disch:=first|exact Dq|fail)only[go_sem,eE,b]
 unfold schP arcP jg at*;refine ae (fn:=aQ) rfl rfl ?_;simp(disch:=first|exact Dq|fail)only[go_sem,aQ];rw[aa (L:=bu) rfl];simp(disch:=first|exact Dq|fail)only[go_sem,bu,c]
theorem res_ixr{s:List UInt8}(e:s.length<=1000):res Γ 508 [.sl .any 5 [rulP],.clo 507 [.ptr [.str s]]]=some [.int .i64 (if exB true s then 0 else-1)]:=by
 have c:=@res_is true s (by omega);unfold jg at c;have b:res Γ 507 [rulP,.ptr [.str s]]=some [.bool (exB true s)]:=by unfold rulP jg;refine ae (fn:=eB) rfl rfl ?_;simp(disch:=first|exact Dq|fail)only[go_sem,eB,c]
 unfold rulP jg at*;refine ae (fn:=be) rfl rfl ?_;simp(disch:=first|exact Dq|fail)only[go_sem,be];rw[aa (L:=au) rfl];cases d:exB true s<;>rw[d]at b;·simp(disch:=first|exact Dq|fail)only[go_sem,au,b];change Wp Γ au _ _ _;rw[aa (L:=au) rfl];simp(disch:=first|exact Dq|fail)only[go_sem,au]
 ·simp(disch:=first|exact Dq|fail)only[go_sem,au,b]
def RulesR(H:Heap)(ru:Nat):Prop:=H[ru]?=some (.box [.p (.sl .any 4 [schP]),.p (.sl .any 5 [rulP])])
theorem RulesR.keep{K:Nat->Prop}{H b:Heap}{a:Nat}(h:RulesR H a)(d:Since K H b)(c:¬K a):RulesR b a:=d.box a _ h c
theorem Ph:res Γ 509 [arcP .any]=some [arcP .any]:=dA 100 (by rfl)
theorem JI{H:Heap}{a:Nat}(c:RulesR H a){s:List UInt8}(d:s.length<=1000)(h:exB false s=true):∃G,resW Γ 493 [.bx a 0,.p (.str s)] H=some ([.p (hdrP (exB true s) .any),.p (.bool true)],H++G):=by
 have e:=res_ixf d h;have b:=res_ixr d;have f:=Ph;unfold RulesR at c;have j:=(List.getElem?_eq_some_iff.1 c).1;have k1:∀G:Heap,(H++G)[a]?=some (.box [.p (.sl .any 4 [schP]),.p (.sl .any 5 [rulP])]):=λG=>by grind
 have g:[H.length+2].contains a=false:=by grind
 refine⟨[.box [.p (.str s)],.box [.p (.int .i64 (agI (exB true s))),.p (.int .i64 (xfI (exB true s))),.p (arcP .any)],.box [.p (.int .i64 (agI (exB true s))),.p (.int .i64 (xfI (exB true s))),.p (arcP .any)]],?_⟩;unfold schP rulP jg arcP at*;refine ah (fn:=ef) rfl rfl ?_;cases i:exB true s<;>rw[i]at b;·simp(disch:=first|exact Dq|fail)only[go_sem,ef,k1,e,b,f,hdrP,ba,af,cu,List.length_append,Nat.zero_add];exact⟨rfl,rfl⟩
 ·simp(disch:=first|exact Dq|fail)only[go_sem,ef,k1,e,b,f,hdrP,ba,af,cu,List.length_append,Nat.zero_add,g];exact⟨rfl,rfl⟩
def gr(s:List UInt8):List UInt8:=fK 46 47 s++[46,119,115,112]
theorem gS{s:List UInt8}:(gr s).length=s.length+4:=by simp[gr,fK]
theorem pm(s:List UInt8)(a:s.length<=1000):res Γ 477 [.str s]=some [.str (gr s)]:=by
 have h:res Γ 487 [.str s,.str [46],.str [47]]=some [.str (fK 46 47 s)]:=nM (lr (g:=IJ) rfl (by simp[IJ];omega));have c:(fK 46 47 s).length=s.length:=by simp[fK]
 refine ae (fn:=sJ) rfl rfl ?_;simp(disch:=first|exact Dq|fail)only[go_sem,sJ,h];rfl
theorem TJ{c:UInt8}(h:il c=true):11<=(c.toNat:Int):=by
 have a:((List.range 256).all λn=>!il (UInt8.ofNat n)||decide (11<=n))=true:=by kernel_rfl
 have :=List.all_eq_true.1 a c.toNat (List.mem_range.2 c.toNat_lt);rw[UInt8.ofNat_toNat,h]at this;grind
theorem first_ok{s:List UInt8}(h:nameB s=true):∃b r,s=b::r/\11<=(b.toNat:Int):=by let⟨f,_,_,d⟩:=bA h;cases s with|nil=>grind|cons b r=>
  refine⟨b,r,rfl,?_⟩;by_cases c:b=46;·simp[*]
  ·cases e:splitB 46 r with|nil=>exact absurd e (gG r)|cons x t=>exact TJ ((d (b::x) (by simp[splitB,c,e])).2 b (by simp))
theorem pI{H:Heap}{N:Tri}{r n i:Nat}(h:Lies H N r n)(c:Foot N i):∃cs,H[i]?=some (.box cs)/\((∃m t,cs=.mp m::t)\/∃t,cs=.nov::t):=by
 obtain⟨p,b,a,rfl|rfl⟩:=c;·exact⟨_,h.box p b a,.inl ⟨_,_,rfl⟩⟩
 ·exact⟨_,h.map p b a,.inr ⟨_,rfl⟩⟩
theorem gY{H:Heap}{N:Tri}{r n i:Nat}{x:AV}{t:List AV}(h:Lies H N r n)(hi:H[i]?=some (.box (x::t)))(f:∀m,x≠.mp m)(b:x≠.nov):¬Foot N i:=λa=>by let⟨cs,e,c⟩:=pI h a;grind
theorem Chg.since{N b:Tri}{H a:Heap}{r n:Nat}(h:Lies H N r n)(c:Chg N b H a):Since (Foot N) H a where len:=c.1;box i cs hi g:=(c.2.1 i (List.getElem?_eq_some_iff.1 hi).1 g).trans hi;row i f sz xs hi:=⟨f,(c.2.1 i (List.getElem?_eq_some_iff.1 hi).1 (λd=>by let⟨cs,e,_⟩:=pI h d;grind)).trans hi,λ_=>rfl⟩
theorem FsS.keepK{F b M room:Nat}{Z:Nat->Prop}{H0 H d:Heap}{l:Fl}{c:Nat}{K:Nat->Prop}(h:FsS F b M room Z H0 l c H)(a:Since K H d)(k1:¬K F)(k2:¬K b)(o:¬K M):FsS F b M room Z d l 0 d\/c≠0:=by
 by_cases q:c=0
 ·left;subst q;let⟨j,m,n,k⟩:=h.m;let⟨p,f,g,e⟩:=h.p;refine⟨a.box F _ h.f k1,⟨j,a.box M _ m o,n.since a,k⟩,λi hi=>Nat.lt_of_lt_of_le (h.zlt i hi) a.len,⟨p,f,a.box b _ g k2,?_⟩,.refl _⟩;rcases e with⟨_,e⟩|⟨t,xs,_,_,_,s,r⟩;·exact .inl ⟨rfl,e⟩
  grind
 grind
theorem FsS.re{F a M room:Nat}{Z:Nat->Prop}{H0 H b:Heap}{l:Fl}{K:Nat->Prop}(h:FsS F a M room Z H0 l 0 H)(d:Since K H b)(k1:¬K F)(k2:¬K a)(c:¬K M):FsS F a M room Z b l 0 b:=by rcases h.keepK d k1 k2 c with h|h;all_goals grind
theorem FsS.re0{F a M room:Nat}{Z:Nat->Prop}{H0 H:Heap}{l:Fl}(h:FsS F a M room Z H0 l 0 H):FsS F a M room Z H l 0 H:=h.re (K:=λ_=>False) (.refl H) (λe=>e) (λe=>e) (λe=>e)
structure PSt(C F Pd M ru r room:Nat)(N:Tri)(L:Path)(fl:Fl)(ld dr md:Int)(H:Heap):Prop where
 core:H[C]?=some (.box [.bx r 0,.bx F 0,.bx ru 0,.p (.int .i64 ld),.p (.int .i64 dr),.p (.int .i64 md)])fs:FsS F Pd M room (λ_=>False) H fl 0 H
 trie:TrieN N H r L
 nms:Nms L
 rules:RulesR H ru
 sep:¬Foot N M
def KP(N:Tri)(C Pd M:Nat)(i:Nat):Prop:=i=Pd\/i=M\/i=C\/Foot N i
section


variable{C F Pd M ru r room:Nat}{N:Tri}{L:Path}{fl:Fl}{ld dr md:Int}{H:Heap}
theorem ChR.shape{B:Nat}{a:AV}{c:Nat}(h:ChR B H a c):(∃v,a=.p v)\/∃i n,a=.own i n:=by rcases h with⟨_,rfl⟩|⟨b,xs,rfl,_⟩;all_goals simp
structure Apart(N:Tri)(C F Pd ru:Nat):Prop where
 c:¬Foot N C
 f:¬Foot N F
 p:¬Foot N Pd
 u:¬Foot N ru
theorem PSt.apart(S:PSt C F Pd M ru r room N L fl ld dr md H):Apart N C F Pd ru:=by
 let⟨k,g,b,c⟩:=S.fs.p;have a:=S.rules;unfold RulesR at a;refine⟨gY S.trie.lies S.core (λm e=>by grind) (λe=>by grind),gY S.trie.lies S.fs.f (λm e=>by grind) (λe=>by grind),?_,gY S.trie.lies a (λm e=>by grind) (λe=>by grind)⟩;rcases c.shape with⟨v,rfl⟩|⟨i,n,rfl⟩;·exact gY S.trie.lies b (λm e=>by grind) (λe=>by grind)
 ·exact gY S.trie.lies b (λm e=>by grind) (λe=>by grind)
theorem PSt.ne(S:PSt C F Pd M ru r room N L fl ld dr md H):C≠F/\C≠Pd/\C≠M/\C≠ru/\ru≠F/\ru≠Pd/\ru≠M:=by
 let⟨j,h,m,n⟩:=S.fs.p;have b:=S.rules;unfold RulesR at b;let⟨o,d,_⟩:=S.fs.m;have c:=S.core;have f:=S.fs.f;refine⟨λe=>?_,λe=>?_,λe=>?_,λe=>?_,λe=>?_,λe=>?_,λe=>?_⟩;·grind
 ·grind
 ·rw[e,d]at c;simp[ak]at c
 ·grind
 ·grind
 ·grind
 ·rw[e,d]at b;simp[ak]at b
theorem PSt.keep{c:Heap}(S:PSt C F Pd M ru r room N L fl ld dr md H){K:Nat->Prop}(a:Since K H c)(k1:¬K C)(k2:¬K F)(f:¬K Pd)(g:¬K M)(l:¬K ru)(k6:∀i,Foot N i->¬K i):PSt C F Pd M ru r room N L fl ld dr md c where
 core:=a.box C _ S.core k1;fs:=S.fs.re a k2 f g;trie:=S.trie.keep λi hi=>by let⟨cs,e,_⟩:=pI S.trie.lies hi;rw[e,a.box i _ e (k6 i hi)]
 nms:=S.nms;rules:=S.rules.keep a l;sep:=S.sep
theorem PSt.ext{a:Heap}(S:PSt C F Pd M ru r room N L fl ld dr md H)(d:Since (λ_=>False) H a):PSt C F Pd M ru r room N L fl ld dr md a:=S.keep d (λe=>e) (λe=>e) (λe=>e) (λe=>e) (λe=>e) (λ_ _ e=>e)
theorem PSt.files{b:Heap}{a:Fl}(S:PSt C F Pd M ru r room N L fl ld dr md H)(h:FsS F Pd M room (λ_=>False) H a 0 b):PSt C F Pd M ru r room N L a ld dr md b:=by let⟨n1,k,q,o,p,n,l⟩:=S.ne;have A:=S.apart;refine⟨h.since.box C _ S.core (by omega),h.re0,S.trie.keep λi hi=>?_,S.nms,S.rules.keep h.since (by omega),S.sep⟩;let⟨cs,e,_⟩:=pI S.trie.lies hi;rw[e,h.since.box i _ e (λe=>by rcases e with rfl|rfl;exact A.p hi;exact S.sep hi)]
theorem PSt.nums{ld' dr' md':Int}(S:PSt C F Pd M ru r room N L fl ld dr md H):PSt C F Pd M ru r room N L fl ld' dr' md' (H.set C (.box [.bx r 0,.bx F 0,.bx ru 0,.p (.int .i64 ld'),.p (.int .i64 dr'),.p (.int .i64 md')])):=by obtain⟨n1,n2,n3,n4,n5,n6,n7⟩:=S.ne;have A:=S.apart;have hl:=(List.getElem?_eq_some_iff.1 S.core).1;have hS:Since (λi=>i=C) H (H.set C (.box [.bx r 0,.bx F 0,.bx ru 0,.p (.int .i64 ld'),.p (.int .i64 dr'),.p (.int .i64 md')])):=(Since.refl H).set (.inl ⟨rfl,_,S.core⟩);refine⟨List.getElem?_set_self hl,S.fs.re hS (λe=>n1 e.symm) (λe=>n2 e.symm) (λe=>n3 e.symm),S.trie.keep λi hi=>?_,S.nms,S.rules.keep hS (λe=>n4 e.symm),S.sep⟩;exact List.getElem?_set_ne (λe=>A.c (by rw[e];exact hi))
theorem PSt.tri{b:Heap}{e:Tri}{d:Path}(S:PSt C F Pd M ru r room N L fl ld dr md H)(t:TrieN e b r d)(c:Chg N e H b)(f:Nms d):PSt C F Pd M ru r room e d fl ld dr md b:=by
 have A:=S.apart;have a:=c.since S.trie.lies;have n:M<H.length:=by let⟨o,p,_⟩:=S.fs.m;grind
 exact⟨a.box C _ S.core A.c,S.fs.re a A.f A.p S.sep,t,f,S.rules.keep a A.u,λh=>by rcases c.2.2 M h with h|h;exact S.sep h;omega⟩
end
theorem xG{c:UInt8}:∀{s:List UInt8},c∈s->c=46\/∃p∈splitB 46 s,c∈p
 |[],h=>by grind|b::l,h=>by
  by_cases d:b=46
  ·subst d;rcases List.mem_cons.1 h with h|h;·grind
   ·rcases xG h with h|⟨p,a,f⟩;·grind
    ·exact .inr ⟨p,by simp[splitB,a],f⟩
  ·cases e:splitB 46 l with|nil=>exact absurd e (gG l)|cons x t=>
    rcases List.mem_cons.1 h with rfl|h;·exact .inr ⟨c::x,by simp[splitB,d,e],by simp⟩
    ·rcases xG h with h|⟨p,a,f⟩;·grind
     ·rw[e]at a;rcases List.mem_cons.1 a with rfl|a;·exact .inr ⟨b::p,by simp[splitB,d,e],by grind⟩
      ·exact .inr ⟨p,by simp[splitB,d,e,a],f⟩
theorem Ci{s:List UInt8}(h:nameB s=true):(47:UInt8)∉s:=λf=>by
 let⟨_,_,_,b⟩:=bA h;rcases xG f with e|⟨p,d,c⟩;·grind
 ·have :=(b p d).2 47 c;revert this;decide
theorem pg:∀{s:List UInt8},(47:UInt8)∉s->fK 47 46 (fK 46 47 s)=s
 |[],_=>rfl|b::l,h=>by have f:b≠47:=λe=>h (by grind);have a:=@pg l (λd=>h (by grind));simp[fK,]at a⊢;simp_all
theorem wZ{s t:List UInt8}(c:nameB s=true)(b:nameB t=true)(h:gr s=gr t):s=t:=by have :=List.append_cancel_right h;rw[<-pg (Ci c),this,pg (Ci b)]
abbrev kS(s:List UInt8):Bool:=exB true s
structure Fit(L:Path)(fl:Fl):Prop where
 has:∀s∈L,∃B,IsF (kS s) B/\fget (gr s) fl=some B
 all:∀x∈fl,∃s∈L,x.1=gr s/\x.2.length=1480
theorem Cq{s b:List UInt8}:∀{l:Fl},fget s l=some b->(s,b)∈l
 |[],h=>by cases h|(t,c)::l,h=>by
  unfold fget at h;split at h;·grind
  ·simp[Cq h]
theorem Fit.none{L:Path}{c:Fl}(h:Fit L c)(d:Nms L){s:List UInt8}(f:nameB s=true)(j:s∉L):fget (gr s) c=none:=by cases e:fget (gr s) c with|none=>rfl|some b=>let⟨t,g,i,_⟩:=h.all _ (Cq e);have :=wZ f (d.ok t g) i;grind
theorem Kc{s b:List UInt8}{x:List UInt8×List UInt8}:∀{l:Fl},x∈fput s b l->x=(s,b)\/x∈l
 |[],h=>by simpa[fput]using h|(t,c)::l,h=>by
  unfold fput at h;split at h;·grind
  ·rcases List.mem_cons.1 h with h|h;·grind
   ·rcases Kc h with h|h;all_goals grind
theorem Bi{s t b:List UInt8}(a:t≠s):∀{l:Fl},fget t (fput s b l)=fget t l
 |[]=>by simp[fput,fget,a]|(u,c)::l=>by
  by_cases h:s=u;·subst h;simp[fput,fget,a]
  ·simp[fput,if_neg h,fget,@Bi s t b a l]
theorem Fit.put{L:Path}{f:Fl}(h:Fit L f)(g:Nms L){s:List UInt8}(j:nameB s=true){B:List UInt8}(c:IsF (kS s) B):Fit (addS s L) (fput (gr s) B f)where
 has t a:=by
  by_cases e:gr t=gr s
  ·rcases mem_addS.1 a with rfl|a;·exact⟨B,c,nw⟩
   ·have :=wZ (g.ok t a) j e;subst this;exact⟨B,c,nw⟩
  ·rw[Bi e];rcases mem_addS.1 a with rfl|a;·grind
   ·exact h.has t a
 all x b:=by
  rcases Kc b with rfl|b;·exact⟨s,mem_addS.2 (.inl rfl),rfl,c.len⟩
  ·let⟨t,k,i⟩:=h.all x b;exact⟨t,mem_addS.2 (.inr k),i⟩
theorem Fit.used{L:Path}{a:Fl}(h:Fit L a):used a=1480*a.length:=by
 have :∀l:Fl,(∀x∈l,x.2.length=1480)->Ab.used l=1480*l.length:=by intro l;induction l with|nil=>intro _;rfl|cons x l f=>intro b;have g:=f λy i=>b y (by grind);have j:=b x (by simp);simp[Ab.used,]at g⊢;omega
 refine this a λx b=>?_;let⟨_,_,_,e⟩:=h.all x b;grind
theorem name_any{s:List UInt8}(h:nameB s=true):exB false s=true:=by obtain⟨b,r,rfl,c⟩:=first_ok h;simp[exB,inB,];grind
section


variable{C F Pd M ru r room:Nat}{N:Tri}{L:Path}{fl:Fl}{ld dr md:Int}{H:Heap}
theorem still493:aw Γ 493=true:=rfl
theorem still492:aw Γ 492=true:=rfl
theorem gP:aw Γ 392=true:=rfl
theorem wx:aw Γ 482=true:=rfl
theorem lH:aw Γ 481=true:=rfl
theorem st_makes(S:PSt C F Pd M ru r room N L fl ld dr md H)(ft:Fit L fl)(hl:L.length<=900)(hroom:room<=1000000)(s:List UInt8)(hn:nameB s=true)(hm:s∉L)(hu:used fl+1480<=room)(hmd:0<=md/\md<=1000)(n:Int):∃N' H',resW Γ 482 [.bx C 0,.p (.str s),.p (.int .i64 n)] H=some ([.p (.int .i64 0)],H')/\PSt C F Pd M ru r room N' (addS s L) (fput (gr s) (newF (kS s)) fl) ld dr (md+1) H'/\Since (KP N C Pd M) H H'/\∀i,Foot N' i->Foot N i\/H.length<=i:=by
 have hsl:=bA hn;obtain⟨G,g1⟩:=JI S.rules (by omega) (name_any hn);obtain⟨H1,hH1⟩:∃H1,H++G=H1:=⟨_,rfl⟩;rw[hH1]at g1;have x1:Since (λ_=>False) H H1:=by rw[<-hH1];exact Since.app _ _
 have S2:=(S.ext x1).ext (Since.app H1 [.box (hdrA (kS s) .any)]);have hg:=ft.none S.nms hn hm;have hfl:=@gS s;obtain⟨H3,a1,a2,a3⟩:=SJ S2.fs (by omega) hg (κ:=kS s) (k:=.any) (by decide) (by omega) hu;have S3:=S2.files a2;obtain⟨N',H4,b1,b2,b3⟩:=zY S3.trie S.nms s (by omega) hn;have S4:=S3.tri b2 b3 (sL S.nms hn (by omega));have S5:=S4.nums (ld':=ld) (dr':=dr) (md':=md+1);have e1:=pm s (by omega);have A:=S3.apart;have sep:=S3.sep;have k3:Since (KP N C Pd M) H H3:=(x1.mono λ_ e=>e.elim).trans ((Since.app _ _).trans (a2.since.mono λi hi=>by rcases hi with h|h;exact .inl h;exact .inr (.inl h)));have k4:Since (KP N C Pd M) H H4:=k3.trans ((b3.since S3.trie.lies).mono λi hi=>.inr (.inr (.inr hi)));refine⟨N',_,?_,S5,k4.set (.inl ⟨.inr (.inr (.inl rfl)),_,S4.core⟩),λi hi=>?_⟩;·have c0:=(S.ext x1).core;have c1:=S2.core;have c3:=S3.core;have c4:=S4.core;unfold hdrP at g1 a1;unfold hdrA at c1 a1;refine ah (fn:=gV) rfl rfl ?_;simp(disch:=first|exact Dq|fail)only[go_sem,gV,S.core,still493,g1,dB,dR,c1,c3,c4,e1,still492,a1,DW,b1];done
 ·have h1:=k3.len;rcases b3.2.2 i hi with h|h;·exact .inl h
  ·exact .inr (by omega)
end
def Prep(s:List UInt8)(L:Path)(fl:Fl)(md:Int)(fp:Fl)(mp:Int)(B:List UInt8):Prop:=(s∈L/\fp=fl/\mp=md/\fget (gr s) fl=some B)\/(s∉L/\fp=fput (gr s) (newF (kS s)) fl/\mp=md+1/\B=newF (kS s))
def errP(now:Int)(n m:Nat):Int:=if 1<=now/\now<=4294967295 then(if n=0/\0<m then 7 else 0)else 1
section


variable{C F Pd M ru r room:Nat}{N:Tri}{L:Path}{fl:Fl}{ld dr md:Int}{H:Heap}
theorem put_bad{c:Nat}{k:SK}{xs:List PV}(s:List UInt8)(d:s.length<=1000)(b:nameB s=false)(now:Int):resW Γ 476 [.bx c 0,.p (.int .i64 now),.p (.str s),.p (.sl k 2 xs)] H=some ([.p (.int .i64 0),.p (.int .i64 14)],H):=by have h:=kK s d;rw[b]at h;refine ah (fn:=aY) rfl rfl ?_;simp(disch:=first|exact Dq|fail)only[go_sem,aY,h]
theorem KW(S:PSt C F Pd M ru r room N L fl ld dr md H)(k:Fit L fl)(x:L.length<=900)(a:room<=1000000)(s:List UInt8)(t:nameB s=true)(l:s∈L\/used fl+1480<=room)(h:0<=md/\md<=1000){g o B}(z:Prep s L fl md g o B)(n:Int):IsF (kS s) B/\fget (gr s) g=some B/\∃e b,((s∈L/\b=H)\/(s∉L/\resW Γ 482 [.bx C 0,.p (.str s),.p (.int .i64 n)] H=some ([.p (.int .i64 0)],b)))/\PSt C F Pd M ru r room e (addS s L) g ld dr o b/\Since (KP N C Pd M) H b/\∀i,Foot e i->Foot N i\/H.length<=i:=by
 rcases z with⟨c,rfl,rfl,m⟩|⟨c,rfl,rfl,rfl⟩;·let⟨I,y,j⟩:=k.has s c;rw[m]at j;cases j;exact⟨y,m,N,H,.inl ⟨c,rfl⟩,by rw[addS,if_pos c];grind,.refl H,λi hi=>.inl hi⟩
 ·have l:used fl+1480<=room:=by grind
  let⟨e,b,w,v,G,u⟩:=st_makes S k x a s t c l h n;exact⟨Ij,nw,e,b,.inr ⟨c,w⟩,v,G,u⟩
theorem KP.of{i:Nat}(h:i=Pd\/i=M):KP N C Pd M i:=by rcases h with h|h;exact .inl h;exact .inr (.inl h)
theorem put_ok{Sb:Nat}{k:SK}(S:PSt C F Pd M ru r room N L fl ld dr md H)(hsb:H[Sb]?=some (.box [.bx C 0]))(ft:Fit L fl)(hl:L.length<=900)(hroom:room<=1000000)(s:List UInt8)(hn:nameB s=true)(hu:s∈L\/used fl+1480<=room)(hld:0<=ld/\ld<=100000)(hdr:0<=dr/\dr<=100000)(hmd:0<=md/\md<=1000){fp mp B}(hp:Prep s L fl md fp mp B){now:Int}(ps:List (Int×Int))(hps:ps.length<=100):∃N' H',resW Γ 476 [.bx Sb 0,.p (.int .i64 now),.p (.str s),.p (.sl k 2 (ptsP ps))] H=some ([.p (.int .i64 (if 1<=now/\now<=4294967295 then((updS (kS s) now ps B).1:Nat)else 0)),.p (.int .i64 (errP now (updS (kS s) now ps B).1 ps.length))],H')/\PSt C F Pd M ru r room N' (addS s L) (if 1<=now/\now<=4294967295 then fput (gr s) (updS (kS s) now ps B).2 fp else fp) (if 1<=now/\now<=4294967295 then ld+((updS (kS s) now ps B).1:Nat)else ld) (if 1<=now/\now<=4294967295 then dr+((ps.length:Int)-((updS (kS s) now ps B).1:Nat))else dr) mp H'/\Since (KP N C Pd M) H H'/\∀i,Foot N' i->Foot N i\/H.length<=i:=by
 have hsl:=bA hn;have h:=kK s (by omega);rw[hn]at h;have hh:=op_has S.trie s (by omega);have hfl:=@gS s;have e1:=pm s (by omega);have lp:=@sZ ps;obtain⟨hB,hg,N',H1,hm,S1,k1,k2⟩:=KW S ft hl hroom s hn hu hmd hp (ps.length:Int);have c0:=S1.core;by_cases hnow:1<=now/\now<=4294967295
 ·simp only[if_pos hnow];obtain⟨H2,a1,a2,a3⟩:=SU S1.fs (by omega) hB hg hnow ps hps (k:=k);have nb:=(vV (κ:=kS s) (now:=now) (ps:=ps) (x:=(0,B)) hB).2;have nb:(updS (kS s) now ps B).1<=ps.length:=by simpa[updS]using nb
  generalize hn1:(updS (kS s) now ps B).1=n at*;have S2:=S1.files a2;have S3:=S2.nums (ld':=ld+(n:Nat)) (dr':=dr+((ps.length:Int)-(n:Nat))) (md':=mp);have c1:=S2.core;have hcl:=(List.getElem?_eq_some_iff.1 c1).1;have c2:∀b,(H2.set C b)[C]?=some b:=λb=>List.getElem?_set_self hcl;refine⟨N',_,?_,S3,(k1.trans (a2.since.mono λj hj=>KP.of hj)).set (.inl ⟨.inr (.inr (.inl rfl)),_,S2.core⟩),k2⟩;refine ah (fn:=aY) rfl rfl ?_;unfold errP;rw[if_pos hnow];rcases hm with⟨hm,rfl⟩|⟨hm,b1⟩
  ·rw[decide_eq_true hm]at hh;by_cases hz:n=0/\0<ps.length;·rw[if_pos hz];simp(disch:=first|exact Dq|fail)only[go_sem,aY,h,hsb,S.core,gP,hh,e1,lH,a1,c1,c2,List.set_set,lp,decide_eq_true (show(n:Int)=0 by omega),decide_eq_true (show(0:Int)<(ps.length:Int)by omega)];rw[hz.1];rfl
   ·rw[if_neg hz];by_cases hz2:n=0;·simp(disch:=first|exact Dq|fail)only[go_sem,aY,h,hsb,S.core,gP,hh,e1,lH,a1,c1,c2,List.set_set,lp,decide_eq_true (show(n:Int)=0 by omega),decide_eq_false (show¬(0:Int)<(ps.length:Int)by omega)];done
    ·simp(disch:=first|exact Dq|fail)only[go_sem,aY,h,hsb,S.core,gP,hh,e1,lH,a1,c1,c2,List.set_set,lp,decide_eq_false (show¬(n:Int)=0 by omega)];done
  ·rw[decide_eq_false hm]at hh;by_cases hz:n=0/\0<ps.length;·rw[if_pos hz];simp(disch:=first|exact Dq|fail)only[go_sem,aY,h,hsb,S.core,c0,gP,hh,wx,b1,e1,lH,a1,c1,c2,List.set_set,lp,decide_eq_true (show(n:Int)=0 by omega),decide_eq_true (show(0:Int)<(ps.length:Int)by omega)];rw[hz.1];rfl
   ·rw[if_neg hz];by_cases hz2:n=0;·simp(disch:=first|exact Dq|fail)only[go_sem,aY,h,hsb,S.core,c0,gP,hh,wx,b1,e1,lH,a1,c1,c2,List.set_set,lp,decide_eq_true (show(n:Int)=0 by omega),decide_eq_false (show¬(0:Int)<(ps.length:Int)by omega)];done
    ·simp(disch:=first|exact Dq|fail)only[go_sem,aY,h,hsb,S.core,c0,gP,hh,wx,b1,e1,lH,a1,c1,c2,List.set_set,lp,decide_eq_false (show¬(n:Int)=0 by omega)];done
 ·simp only[if_neg hnow];obtain⟨H2,a1,a2⟩:=JE S1.fs (by omega) hB hg hnow (v:=.sl k 2 (ptsP ps));refine⟨N',H2,?_,S1.ext a2,k1.trans (a2.mono λ_ e=>e.elim),k2⟩;refine ah (fn:=aY) rfl rfl ?_;unfold errP;rw[if_neg hnow];rcases hm with⟨hm,rfl⟩|⟨hm,b1⟩;·rw[decide_eq_true hm]at hh;simp(disch:=first|exact Dq|fail)only[go_sem,aY,h,hsb,S.core,gP,hh,e1,lH,a1];done
  ·rw[decide_eq_false hm]at hh;simp(disch:=first|exact Dq|fail)only[go_sem,aY,h,hsb,S.core,c0,gP,hh,wx,b1,e1,lH,a1,lp];done
end
def errH(s:List UInt8)(L:Path):Int:=if nameB s=true then(if s∈L then 0 else 5)else 14
def errG(s:List UInt8)(L:Path)(now fr un:Int):Int:=if errH s L=0 then rgE now fr un else errH s L
theorem sc:aw Γ 479=true:=rfl
theorem Ky:aw Γ 478=true:=rfl
theorem still480:aw Γ 480=true:=rfl
theorem GY{now a b:Int}(h:rgE now a b=0):(1<=now/\now<=4294967295)/\okF now a b:=by unfold rgE at h;unfold okF;grind
section


variable{C F Pd M ru r room:Nat}{N:Tri}{L:Path}{fl:Fl}{ld dr md:Int}{H:Heap}{Sb:Nat}
theorem Lp(S:PSt C F Pd M ru r room N L fl ld dr md H)(a:H[Sb]?=some (.box [.bx C 0]))(s:List UInt8)(e:s.length<=1000):resW Γ 479 [.bx Sb 0,.p (.str s)] H=some ([.p (.int .i64 (errH s L))],H):=by
 have h:=kK s e;have c:=op_has S.trie s e;have d:=S.core;unfold errH;refine ah (fn:=eN) rfl rfl ?_;cases g:nameB s<;>rw[g]at h;·simp(disch:=first|exact Dq|fail)only[go_sem,eN,h];try rfl
 ·by_cases b:s∈L;·rw[decide_eq_true b]at c;simp[b,];simp(disch:=first|exact Dq|fail)only[go_sem,eN,h,a,d,gP,c]
  ·rw[decide_eq_false b]at c;simp[b,];simp(disch:=first|exact Dq|fail)only[go_sem,eN,h,a,d,gP,c]
theorem qJ{s:List UInt8}(h:errH s L=0):nameB s=true/\s∈L:=by unfold errH at h;grind
theorem Ea(S:PSt C F Pd M ru r room N L fl ld dr md H)(l:H[Sb]?=some (.box [.bx C 0]))(P:Fit L fl)(s:List UInt8)(E:s.length<=1000){now g h:Int}(a:errG s L now g h≠0):∃j,resW Γ 474 [.bx Sb 0,.p (.int .i64 now),.p (.str s),.p (.int .i64 g),.p (.int .i64 h)] H=some ([.p zSer,.p (.int .i64 (errG s L now g h))],j)/\Since (λ_=>False) H j:=by
 have k:Ext0 H (H++[.box [.p (.str []),.p (.int .i64 0),.p (.int .i64 0),.p (.sl .nil 2 []),.p (.int .i64 0)]]):=.app _ _;have n:=S.ext (.ext k);have i:=k.get l;have m:=Lp n i s E;have R:=ci (Γ:=Γ) (f:=474) (fn:=dG) (args:=[.bx Sb 0,.p (.int .i64 now),.p (.str s),.p (.int .i64 g),.p (.int .i64 h)]) (H:=H) (K:=λrs j=>rs=[.p zSer,.p (.int .i64 (errG s L now g h))]/\Since (λ_=>False) H j) rfl rfl ?_;·grind
 unfold errG at a⊢;by_cases c:errH s L=0;·rw[if_pos c]at a⊢;rw[c]at m;let⟨w,x⟩:=qJ c;have D:=bA w;have I:=@gS s;have z:=pm s (by omega);let⟨B,A,J⟩:=P.has s x;let⟨u,t,o⟩:=PH n.fs (by omega) A J a;have v:=n.core;have b0:=o.box H.length _ (by rw[af];rfl) (λe=>e);have O:=λG=>(Ext0.app u G).get b0;have Q:∀(G:Heap)b,((u++G).set H.length b)[H.length]?=some b:=λG b=>List.getElem?_set_self (by grind);have d:=decide_eq_true a;unfold zSer at t;simp(disch:=first|exact Dq|fail)only[go_sem,dG,sc,m,i,v,z,Ky,t,af,aB,Nat.zero_add,O,Q,d];exact⟨rfl,(((Since.ext k).trans o).trans (.app _ _)).set (.inr (Nat.le_refl _))⟩
 ·rw[if_neg c]at a⊢;have d:=decide_eq_true c;simp(disch:=first|exact Dq|fail)only[go_sem,dG,sc,m,d,af,aB,Nat.zero_add];exact⟨rfl,.ext k⟩
theorem QV(S:PSt C F Pd M ru r room N L fl ld dr md H)(j:H[Sb]?=some (.box [.bx C 0])){s:List UInt8}(O:s.length<=1000){now a d:Int}(i:errG s L now a d=0){B:List UInt8}(E:IsF (kS s) B)(P:fget (gr s) fl=some B):∃g R,resW Γ 474 [.bx Sb 0,.p (.int .i64 now),.p (.str s),.p (.int .i64 a),.p (.int .i64 d)] H=some ([.agg [.p (.str s),.p (.int .i64 (stG now a)),.p (.int .i64 (stp (iF now a))),.own R (nF now a d),.p (.int .i64 0)],.p (.int .i64 0)],g)/\Since (λ_=>False) H g/\g[R]?=some (.row false 2 (vpv (vlF B now a d)))/\H.length<=R:=by
 have k:Ext0 H (H++[.box [.p (.str []),.p (.int .i64 0),.p (.int .i64 0),.p (.sl .nil 2 []),.p (.int .i64 0)]]):=.app _ _;have l:=S.ext (.ext k);have h:=k.get j;have o:=Lp l h s O;have c:errH s L=0:=by unfold errG at i;grind
 unfold errG at i;rw[if_pos c]at i;rw[c]at o;let⟨w,W⟩:=qJ c;let⟨v,u⟩:=GY i;have A:=bA w;have x:=@gS s;have z:=pm s (by omega);let⟨q,R,Q,n,V,I⟩:=wh_fetch l.fs (by omega) E P v u;have t:=l.core;have b0:=n.box H.length _ (by rw[af];rfl) (λe=>e);have D:=λG=>(Ext0.app q G).get b0;have T:∀(G:Heap)b,((q++G).set H.length b)[H.length]?=some b:=λG b=>List.getElem?_set_self (by grind);have J:(H++[Blk.box [.p (.str []),.p (.int .i64 0),.p (.int .i64 0),.p (.sl .nil 2 []),.p (.int .i64 0)]]).length=H.length+1:=by simp
 rw[J]at I;have U:=ci (Γ:=Γ) (f:=474) (fn:=dG) (args:=[.bx Sb 0,.p (.int .i64 now),.p (.str s),.p (.int .i64 a),.p (.int .i64 d)]) (H:=H) (K:=λrs g=>rs=[.agg [.p (.str s),.p (.int .i64 (stG now a)),.p (.int .i64 (stp (iF now a))),.own R (nF now a d),.p (.int .i64 0)],.p (.int .i64 0)]/\Since (λ_=>False) H g/\g[R]?=some (.row false 2 (vpv (vlF B now a d)))) rfl rfl ?_;·grind
 simp(disch:=first|exact Dq|fail)only[go_sem,dG,sc,o,h,t,z,Ky,Q,af,aB,Nat.zero_add,D,T];refine⟨(((Since.ext k).trans n).trans (.app _ _)).set (.inr (Nat.le_refl _)),?_⟩;grind
theorem TY(S:PSt C F Pd M ru r room N L fl ld dr md H)(a:H[Sb]?=some (.box [.bx C 0]))(s:List UInt8)(e:s.length<=1000)(h:errH s L≠0):∃c,resW Γ 473 [.bx Sb 0,.p (.str s)] H=some ([.p (.agg [.int .i64 0,.int .i64 0,.sl .nil 2 []]),.p (.int .i64 (errH s L))],c)/\Since (λ_=>False) H c:=by have b:Ext0 H (H++[.box [.p (.int .i64 0),.p (.int .i64 0),.p (.sl .nil 2 [])]]):=.app _ _;have f:=Lp (S.ext (.ext b)) (b.get a) s e;have d:=decide_eq_true h;refine⟨_,ah (fn:=dL) rfl rfl ?_,.ext b⟩;simp(disch:=first|exact Dq|fail)only[go_sem,dL,sc,f,d,af,aB,Nat.zero_add]
theorem st_info(S:PSt C F Pd M ru r room N L fl ld dr md H)(g:H[Sb]?=some (.box [.bx C 0]))(o:Fit L fl)(s:List UInt8)(I:s.length<=1000)(k:errH s L=0):∃l,resW Γ 473 [.bx Sb 0,.p (.str s)] H=some ([.p (hdrP (kS s) .any),.p (.int .i64 0)],l)/\Since (λ_=>False) H l:=by have f:Ext0 H (H++[.box [.p (.int .i64 0),.p (.int .i64 0),.p (.sl .nil 2 [])]]):=.app _ _;have d:=S.ext (.ext f);have a:=f.get g;have m:=Lp d a s I;rw[k]at m;let⟨t,w⟩:=qJ k;have x:=bA t;have u:=@gS s;have q:=pm s (by omega);let⟨B,z,A⟩:=o.has s w;let⟨v,j,h⟩:=wh_info d.fs (by omega) z A;have n:=d.core;have b0:=h.box H.length _ (by rw[af];rfl) (λe=>e);have E:=(List.getElem?_eq_some_iff.1 b0).1;have G:∀b,(v.set H.length b)[H.length]?=some b:=λb=>List.getElem?_set_self E;refine⟨_,ah (fn:=dL) rfl rfl ?_,((Since.ext f).trans h).set (i:=H.length) (b:=.box (hdrA (kS s) .any)) (.inr (Nat.le_refl _))⟩;unfold hdrP at j⊢;simp(disch:=first|exact Dq|fail)only[go_sem,dL,sc,m,a,n,q,still480,j,Nat.zero_add,b0,G];rfl
end
def filP(l:Fl):List PV:=l.map λx=>.agg [.str x.1,.sl .any 1 (ao x.2)]
theorem fy{l:Fl}:(filP l).length=l.length:=by simp[filP]
theorem filP_get{l:Fl}{i:Nat}(h:i<l.length):(filP l)[i]?=some (.agg [.str (l.getD i ([],[])).1,.sl .any 1 (ao (l.getD i ([],[])).2)]):=by simp[filP,List.getElem?_eq_getElem h]
theorem ww{l:Fl}{x:List UInt8×List UInt8}:filP l++[.agg [.str x.1,.sl .any 1 (ao x.2)]]=filP (l++[x]):=by simp[filP]
def fix(s:List UInt8):Fl->Nat|[]=>0|(t,_)::l=>if s=t then 0 else fix s l+1
theorem wm{s:List UInt8}:∀{l:Fl},fget s l=none->fix s l=l.length
 |[],_=>rfl|(t,b)::l,h=>by
  unfold fget at h;split at h;·grind
  ·rename_i e;simp[fix,if_neg e,wm h]
theorem lO{s b:List UInt8}:∀{l:Fl},fget s l=some b->fix s l<l.length/\l.getD (fix s l) ([],[])=(s,b)
 |[],h=>by cases h|(t,c)::l,h=>by
  unfold fget at h;by_cases e:s=t;·subst e;rw[if_pos rfl]at h;cases h;simp[fix]
  ·rw[if_neg e]at h;let⟨d,f⟩:=lO h;simp[fix,];grind
theorem DD{s b c:List UInt8}:∀{l:Fl},fget s l=some b->fput s c l=l.set (fix s l) (s,c)
 |[],h=>by cases h|(t,d)::l,h=>by
  unfold fget at h;by_cases e:s=t;·subst e;simp[fput,fix]
  ·rw[if_neg e]at h;simp[fput,if_neg e,fix,DD h]
theorem BM{s:List UInt8}:∀{l:Fl}{i:Nat},i<fix s l->(l.getD i ([],[])).1≠s
 |[],i,h=>by simp[fix]at h|(t,c)::l,0,h=>by unfold fix at h;grind|(t,c)::l,i+1,h=>by
  unfold fix at h;split at h;·omega
  ·have :=@BM s l i (by omega);grind
theorem SH{s:List UInt8}:∀{l:Fl},fix s l<=l.length
 |[]=>Nat.le_refl _|(t,c)::l=>by
  unfold fix;split;·omega
  ·have :=@SH s l;grind
theorem rW(s:List UInt8)(c:1<=s.length)(d:s.length<=255):res Γ 588 [.str s]=some [.bool true]:=by have a:decide ((s.length:Int)<=255)=true:=decide_eq_true (by omega);refine ae (fn:=r3_is) rfl rfl ?_;simp(disch:=first|exact Dq|fail)only[go_sem,r3_is,a]
theorem jQ{H:Heap}{k:SK}{l:Fl}{i:Nat}(h:i<l.length):iaddrA H 2 (.p (.sl k 2 (filP l))) (.p (.int .i64 (i:Int)))=some (.p (.ptr [.str (l.getD i ([],[])).1,.sl .any 1 (ao (l.getD i ([],[])).2)])):=by have :=mP (H:=H) (sz:=2) (k':=k) (k:=.i64) (i:=(i:Int)) (by omega) (by simpa using filP_get h);exact this
def fixI(s:List UInt8)(l:Fl):Int:=if fix s l<l.length then(fix s l:Int)else-1
theorem Ep{k:SK}(l:Fl)(r:l.length<=100000)(s:List UInt8)(Q:Out->Prop)(a:fix s l<l.length->∀e,look e 4=.p (.int .i64 (fix s l:Int))->Q (.ret,e,[]))(d:fix s l=l.length->∀e,Q (.ex 0,e,[])):∀(f i:Nat),i+f=l.length->i<=fix s l->Wp Γ iw [(0,.p (.sl k 2 (filP l))),(1,.p (.str s)),(5,.p (.int .i64 (i:Int)))] [] Q:=by intro f;induction f with
 |zero=>
  intro i hi o;have hi:i=l.length:=by omega
  subst hi;have :=@SH s l;have d:=d (by omega);rw[aa (L:=iw) rfl];simp(disch:=first|exact Dq|fail)only[go_sem,iw,fy];grind|succ f j=>
  intro i hi o;have g:i<l.length:=by omega
  have c:=jQ (H:=[]) (k:=k) g;by_cases e:i=fix s l
  ·have m:(l.getD i ([],[])).1=s:=by subst e;cases n:fget s l with|none=>rw[wm n]at g;omega|some b=>rw[(lO n).2]
   have h:=decide_eq_true m;have a:=a (by omega);rw[<-e]at a;rw[aa (L:=iw) rfl];simp(disch:=first|exact Dq|fail)only[go_sem,iw,fy,c,h];exact a _ rfl
  ·have m:=@BM s l i (by omega);have h:=decide_eq_false m;have j:=j (i+1) (by omega) (by omega);rw[aa (L:=iw) rfl];simp(disch:=first|exact Dq|fail)only[go_sem,iw,fy,c,h];exact j
theorem jp{k:SK}(l:Fl)(b:l.length<=100000)(s:List UInt8):res Γ 589 [.sl k 2 (filP l),.str s]=some [.int .i64 (fixI s l)]:=by
 refine ae (fn:=CI) rfl rfl ?_;simp(disch:=first|exact Dq|fail)only[go_sem,CI];refine Ep l b s _ (λh e c=>?_) (λh e=>?_) l.length 0 (by omega) (by omega);·have a:fixI s l=(fix s l:Int):=if_pos h;simp(disch:=first|exact Dq|fail)only[go_sem,c,a]
 ·have a:fixI s l=-1:=if_neg (by omega);simp(disch:=first|exact Dq|fail)only[go_sem,a]
theorem IU{k k1:SK}(b:List UInt8)(c:b.length<=100000):res Γ 602 [.sl k 1 [.sl k1 1 (ao b)]]=some [.sl .any 1 (ao b)]:=by have d:=@aK b;refine ae (fn:=tP) rfl rfl ?_;simp(disch:=first|exact Dq|fail)only[go_sem,tP];rw[aa (L:=de) rfl];simp(disch:=first|exact Dq|fail)only[go_sem,de,oT,ip];change Wp Γ de _ _ _;rw[aa (L:=de) rfl];simp(disch:=first|exact Dq|fail)only[go_sem,de]
theorem HA{k k1 k2:SK}(b d:List UInt8)(h:b.length<=100000)(f:d.length<=100000):res Γ 602 [.sl k 1 [.sl k1 1 (ao b),.sl k2 1 (ao d)]]=some [.sl .any 1 (ao (b++d))]:=by
 have c:=@aK b;have a:=@aK d;have e:(ao (b++d)).length=(ao b).length+(ao d).length:=by rw[aK,c,a,List.length_append]
 refine ae (fn:=tP) rfl rfl ?_;simp(disch:=first|exact Dq|fail)only[go_sem,tP];rw[aa (L:=de) rfl];simp(disch:=first|exact Dq|fail)only[go_sem,de,oT,ip];change Wp Γ de _ _ _;rw[aa (L:=de) rfl];simp(disch:=first|exact Dq|fail)only[go_sem,de,oT,wU];change Wp Γ de _ _ _;rw[aa (L:=de) rfl];simp(disch:=first|exact Dq|fail)only[go_sem,de]
theorem Jk{k:SK}(l:Fl)(q:l.length<=100000)(A:List AV)(Q:Out->Prop)(m:∀e H,look e 3=.bx 0 0->look e 6=.own 1 l.length->H[0]?=some (.box A)->H[1]?=some (.row false 2 (filP l))->Q (.ex 0,e,H)):∀(f i:Nat)(H:Heap),i+f=l.length->H[0]?=some (.box A)->H[1]?=some (.row false 2 (filP (l.take i)))->Wp Γ dx [(0,.p (.sl k 2 (filP l))),(3,.bx 0 0),(5,.p (.int .i64 (-1))),(6,.own 1 i),(7,.p (.int .i64 (i:Int)))] H Q:=by intro f;induction f with
 |zero=>
  intro i H hi h c;have hi:i=l.length:=by omega
  subst hi;rw[List.take_length]at c;rw[aa (L:=dx) rfl];simp(disch:=first|exact Dq|fail)only[go_sem,dx,fy];exact m _ _ rfl rfl h c|succ f a=>
  intro i H hi h c;have g:i<l.length:=by omega
  have b:=jQ (H:=H) (k:=k) g;have s:decide ((i:Int)=-1)=false:=decide_eq_false (by omega);have n:=decide_eq_true (by omega);have o:l.take (i+1)=l.take i++[l.getD i ([],[])]:=by simp[*]
  have j:(filP (l.take i)).length=i:=by rw[fy,List.length_take];omega
  have a:=a (i+1) ((H++[Blk.box [.p (.str (l.getD i ([],[])).1),.p (.sl .any 1 (ao (l.getD i ([],[])).2))]]).set 1 (Blk.row false 2 (filP (l.take (i+1))))) (by omega) (by grind) (List.getElem?_set_self (by grind));rw[o,<-ww]at a;have d:∀G:Heap,(H++G)[1]?=some (.row false 2 (filP (l.take i))):=λG=>by grind
  rw[aa (L:=dx) rfl];simp(disch:=first|exact Dq|fail)only[go_sem,dx,fy,b,n,dB,dR,d];exact a
theorem TV{k:SK}(l:Fl)(f:l.length<=100000)(s b:List UInt8)(h:fget s l=none):res Γ 612 [.sl k 2 (filP l),.agg [.int .i64 1,.str s,.int .i64 0,.sl .any 1 (ao b)]]=some [.sl .any 2 (filP (l++[(s,b)]))]:=by
 have c:=jp (k:=k) l f s;have e:fixI s l=-1:=if_neg (by rw[wm h];omega);rw[e]at c;refine ae (fn:=ub) rfl rfl ?_;simp(disch:=first|exact Dq|fail)only[go_sem,ub,c];refine Jk l f [.p (.int .i64 1),.p (.str s),.p (.int .i64 0),.p (.sl .any 1 (ao b))] _ (λe H n j o g=>?_) l.length 0 _ (by omega) rfl (by rfl);have d:=@fy l;have a:=(List.getElem?_eq_some_iff.1 g).1;have i:∀b,(H.set 1 b)[1]?=some b:=λb=>List.getElem?_set_self a;have q:filP l++[.agg [.str s,.sl .any 1 (ao b)]]=filP (l++[(s,b)]):=ww (x:=(s,b));have m:(filP (l++[(s,b)])).length=l.length+1:=by grind
 simp(disch:=first|exact Dq|fail)only[go_sem,n,j,o,g,i,q]
theorem JY{k:SK}(l:Fl)(R:l.length<=100000)(s b:List UInt8)(N:fget s l=some b)(S:b.length<=100000)(a:Nat)(d:List UInt8)(C:a+d.length<=b.length)(A:a<b.length)(Q:Out->Prop)(J:∀e H,look e 3=.bx 0 0->look e 6=.own 1 l.length->H[0]?=some (.box [.p (.int .i64 2),.p (.str s),.p (.int .i64 (a:Int)),.p (.sl .any 1 (ao d))])->H[1]?=some (.row false 2 (filP (l.set (fix s l) (s,spl b a d))))->Q (.ex 0,e,H)):∀(f i:Nat)(H:Heap),i+f=l.length->H[0]?=some (.box [.p (.int .i64 2),.p (.str s),.p (.int .i64 (a:Int)),.p (.sl .any 1 (ao d))])->H[1]?=some (.row false 2 (filP ((l.set (fix s l) (s,spl b a d)).take i)))->Wp Γ dx [(0,.p (.sl k 2 (filP l))),(3,.bx 0 0),(5,.p (.int .i64 (fix s l:Int))),(6,.own 1 i),(7,.p (.int .i64 (i:Int)))] H Q:=by let⟨P,u⟩:=lO N;generalize fix s l=j at*;intro f;induction f with
 |zero=>
  intro i H hi B w;have hi:i=l.length:=by omega
  subst hi;rw[List.take_of_length_le (by simp)]at w;rw[aa (L:=dx) rfl];simp(disch:=first|exact Dq|fail)only[go_sem,dx,fy];exact J _ _ rfl rfl B w|succ f c=>
  intro i H hi B w;have v:i<l.length:=by omega
  have m:=jQ (H:=H) (k:=k) v;have r:(l.set j (s,spl b a d)).take (i+1)=(l.set j (s,spl b a d)).take i++[(l.set j (s,spl b a d)).getD i ([],[])]:=by simp[*]
  have z:(filP ((l.set j (s,spl b a d)).take i)).length=i:=by rw[fy,List.length_take,List.length_set];omega
  have o:∀G:Heap,(H++G)[1]?=some (.row false 2 (filP ((l.set j (s,spl b a d)).take i))):=λG=>by grind
  have y:∀G:Heap,(H++G)[0]?=some (.box [.p (.int .i64 2),.p (.str s),.p (.int .i64 (a:Int)),.p (.sl .any 1 (ao d))]):=λG=>by grind
  by_cases e:i=j
  ·subst e;have n:decide ((i:Int)=(i:Int))=true:=decide_eq_true rfl;have t:decide ((i:Int)≠(i:Int))=false:=decide_eq_false (λh=>h rfl);have g:(l.set i (s,spl b a d)).getD i ([],[])=(s,spl b a d):=by grind
   rw[g]at r;rw[u]at m;have c:=λM=>c (i+1) M (by omega);rw[r,<-ww]at c;have q:=@aK b;have E:=@aK d;have D:(ao (spl b a d)).length=b.length:=by rw[aK,Ae C]
   have K:List.take (b.length-a) (ao d)=ao d:=List.take_of_length_le (by omega);have x:a<=b.length:=by omega
   have F:=(copyR (H:=H++[Blk.box [.p (.str s),.p (.sl .any 1 (ao b))],Blk.row false 1 (ao b)]) (rb:=H.length+1) (by simp) q (a:=a) (ds:=ao d) A (by omega)).1;rw[aa (L:=dx) rfl];simp(disch:=first|exact Dq|fail)only[go_sem,dx,fy,m,t,oT,ip,ba,af,cu,aB,List.length_append,Nat.zero_add,o,y,kr,F,win_p,Nat.le_add_right,Nat.add_sub_cancel_left,A,x,Nat.le_refl,q,K,splP];refine c _ ?_ ?_;all_goals grind
  ·have n:=decide_eq_false (by omega);have I:=decide_eq_true (by omega);have g:(l.set j (s,spl b a d)).getD i ([],[])=l.getD i ([],[]):=by grind
   rw[g]at r;have c:=c (i+1) ((H++[Blk.box [.p (.str (l.getD i ([],[])).1),.p (.sl .any 1 (ao (l.getD i ([],[])).2))]]).set 1 (Blk.row false 2 (filP ((l.set j (s,spl b a d)).take (i+1))))) (by omega) (by grind) (List.getElem?_set_self (by grind));rw[r,<-ww]at c;rw[aa (L:=dx) rfl];simp(disch:=first|exact Dq|fail)only[go_sem,dx,fy,m,n,I,dB,dR,o];exact c
theorem Sx{k:SK}(l:Fl)(h:l.length<=100000)(s b:List UInt8)(c:fget s l=some b)(i:b.length<=100000)(a:Nat)(d:List UInt8)(q:a+d.length<=b.length)(o:a<b.length):res Γ 612 [.sl k 2 (filP l),.agg [.int .i64 2,.str s,.int .i64 (a:Int),.sl .any 1 (ao d)]]=some [.sl .any 2 (filP (fput s (spl b a d) l))]:=by
 have f:=jp (k:=k) l h s;have e:fixI s l=(fix s l:Int):=if_pos (lO c).1;rw[e]at f;rw[DD c];refine ae (fn:=ub) rfl rfl ?_;simp(disch:=first|exact Dq|fail)only[go_sem,ub,f];refine JY l h s b c i a d q o _ (λe H n j p m=>?_) l.length 0 _ (by omega) rfl (by rfl);have g:(filP (l.set (fix s l) (s,spl b a d))).length=l.length:=by rw[fy,List.length_set]
 simp(disch:=first|exact Dq|fail)only[go_sem,n,j,p,m]
end Ab
