import Derived.Test.YtbehhmffelnmfaaGreatDoorLOp38
import Derived.Test.YtbehhmffelnmfaaGreatDoorLMd
import Derived.Test.YtbehhmffelnmfaaGreatDoorLGlob4
import Derived.Test.YtbehhmffelnmfaaGreatDoorLTrie10
set_option linter.all false
namespace Ab
theorem KE:aw Γ 329=true:=rfl
theorem still319:aw Γ 319=true:=rfl
theorem still599:aw Γ 599=true:=rfl
section


variable{ρ:Bool}{t:List UInt8}
theorem r12walk(ht:t.length<=1000){i:Nat}(hi:i<=t.length)(H:Heap):∃rs H',resW Γ 329 [.p (.agg [.int .i64 0,jg ρ]),.p (.str t),.p (.int .i64 i)] H=some (rs,H')/\Ext0 H H'/\∃v:PV,rs=[.p v,.p (.bool (exB ρ ((t.drop i).take 1)))]:=by
 obtain⟨n,hn⟩:∃n:Nat,(((4:Nat):Int)*((t.length:Int)+1)).toNat=n:=⟨_,rfl⟩;have hn2:n=4*t.length+4:=by omega
 have s1:((1:Nat):Int)-1=0:=rfl;have q2:((List.replicate n false).set (0*((t.length:Int)+1)+i).toNat true).getD (1*((t.length:Int)+1)+i).toNat false=false:=by rw[Oe (by omega)];exact seen0
 have q3:(((List.replicate n false).set (0*((t.length:Int)+1)+i).toNat true).set (1*((t.length:Int)+1)+i).toNat true).getD (2*((t.length:Int)+1)+(i+1)).toNat false=false:=by rw[Oe (by omega),Oe (by omega)];exact seen0
 have q4:((((List.replicate n false).set (0*((t.length:Int)+1)+i).toNat true).set (1*((t.length:Int)+1)+i).toNat true).set (2*((t.length:Int)+1)+(i+1)).toNat true).getD (3*((t.length:Int)+1)+(i+1)).toNat false=false:=by rw[Oe (by omega),Oe (by omega),Oe (by omega)];exact seen0
 unfold jg DL;refine ci (fn:=wu) (K:=λrs H'=>Ext0 H H'/\∃v:PV,rs=[.p v,.p (.bool (exB ρ ((t.drop i).take 1)))]) rfl rfl ?_;simp(disch:=first|exact Dq|fail)only[go_sem,wu,List.length_append,Nat.zero_add];rw[aa (L:=fJ) rfl];simp(disch:=first|exact Dq|fail)only[go_sem,fJ,oT,ba,af,cu,Nat.zero_add];change Wp Γ fJ _ _ _;rw[aa (L:=fJ) rfl];simp(disch:=first|exact Dq|fail)only[go_sem,fJ,oT,ba,af,cu,Nat.zero_add];change Wp Γ fJ _ _ _;rw[aa (L:=fJ) rfl];simp(disch:=first|exact Dq|fail)only[go_sem,fJ,ba,af,cu,List.length_append,Nat.zero_add];rw[aa (L:=bF) rfl];simp(disch:=first|exact Dq|fail)only[go_sem,bF,Dz,s1,hn,Lv,ba,cu,List.length_append,Nat.zero_add];rw[pop_3 (by rw[ba];rfl)];simp(disch:=first|exact Dq|fail)only[go_sem,seen0,stK0,ba,af,cu,List.length_append,Nat.zero_add];change Wp Γ bF _ _ _;rw[aa (L:=bF) rfl];simp(disch:=first|exact Dq|fail)only[go_sem,bF,Dz,s1,Lv,ba,cu,List.length_append,Nat.zero_add];rw[pop_3 (by rw[ba];rfl)];by_cases c:i=t.length;·have z1:decide ((i:Int)<(t.length:Int))=false:=decide_eq_false (by omega);simp(disch:=first|exact Dq|fail)only[go_sem,q2,z1,ba,af,cu,List.length_append,Nat.zero_add];change Wp Γ bF _ _ _;rw[aa (L:=bF) rfl];simp(disch:=first|exact Dq|fail)only[go_sem,bF,ba];exact⟨.app _ _,_,by simp[exB,c];rfl⟩
 ·have z1:decide ((i:Int)<(t.length:Int))=true:=decide_eq_true (by omega);have ix:idxA (.p (.str t)) (.p (.int .i64 i))=some (.p (.int .u8 t[i].toNat)):=by rw[TX (by omega) (by omega),Int.toNat_natCast];simp[byt,List.getD,List.getElem?_eq_getElem (show i<t.length by omega)]
  have hh:=@NZ ρ t[i].toNat t[i].toNat_lt;have ee:exB ρ ((t.drop i).take 1)=inB ρ t[i].toNat:=by rw[List.drop_eq_getElem_cons (by omega)];simp only[exB,List.take_succ_cons,List.take_zero,List.any_cons,List.any_nil,Bool.or_false]
  cases hb2:inB ρ t[i].toNat<;>rw[hb2]at hh ee;·simp(disch:=first|exact Dq|fail)only[go_sem,q2,z1,ix,hh,ba,af,cu,List.length_append,Nat.zero_add];change Wp Γ bF _ _ _;rw[aa (L:=bF) rfl];simp(disch:=first|exact Dq|fail)only[go_sem,bF,ba];exact⟨.app _ _,_,by rw[ee]⟩
  ·simp(disch:=first|exact Dq|fail)only[go_sem,q2,z1,ix,hh,ba,af,cu,List.length_append,Nat.zero_add];change Wp Γ bF _ _ _;rw[aa (L:=bF) rfl];simp(disch:=first|exact Dq|fail)only[go_sem,bF,Dz,s1,Lv,ba,cu,List.length_append,Nat.zero_add];rw[pop_3 (by rw[ba];rfl)];simp(disch:=first|exact Dq|fail)only[go_sem,q3,stK1,ba,af,cu,List.length_append,Nat.zero_add];change Wp Γ bF _ _ _;rw[aa (L:=bF) rfl];simp(disch:=first|exact Dq|fail)only[go_sem,bF,Dz,s1,Lv,ba,cu,List.length_append,Nat.zero_add];rw[pop_3 (by rw[ba];rfl)];simp(disch:=first|exact Dq|fail)only[go_sem,q4,ba,af,cu,List.length_append,Nat.zero_add];exact⟨.app _ _,_,by rw[ee]⟩
theorem exB_drop{i:Nat}(hi:i<=t.length):exB ρ (t.drop i)=(exB ρ ((t.drop i).take 1)||exB ρ (t.drop (i+1))):=by
 by_cases c:i=t.length;·rw[List.drop_eq_nil_of_le (by omega),List.drop_eq_nil_of_le (by omega)];rfl
 ·rw[List.drop_eq_getElem_cons (by omega)];simp only[exB,List.take_succ_cons,List.take_zero,List.any_cons,List.any_nil,Bool.or_false]
theorem Nf(ht:t.length<=1000){x:Nat}(Q:Out->Prop)(h1:∀e H v,look e 6=.p v->look e 7=.p (.bool true)->exB ρ t=true->Q (.ret,e,H))(h2:∀e H,exB ρ t=false->Q (.ex 0,e,H)):∀(f i:Nat)(H:Heap),i+f=t.length+1->H[x]?=some (bxP ρ)->exB ρ t=exB ρ (t.drop i)->Wp Γ ie [(1,.p (.str t)),(3,.bx x 0),(8,.p (.int .i64 i))] H Q:=by intro f;induction f with
 |zero=>intro i H hi hx he;have z:decide ((i:Int)<=(t.length:Int))=false:=decide_eq_false (by omega);rw[aa (L:=ie) rfl];simp(disch:=first|exact Dq|fail)only[go_sem,ie,z];exact h2 _ _ (by rw[he,List.drop_eq_nil_of_le (by omega)];rfl)|succ f ih=>
  intro i H hi hx he;have z:decide ((i:Int)<=(t.length:Int))=true:=decide_eq_true (by omega);obtain⟨rs,H2,hw,hE,v,rfl⟩:=@r12walk ρ t ht i (by omega) H;have hd:=@exB_drop ρ t i (by omega);unfold bxP at hx;have hx2:=hE.get hx;rw[aa (L:=ie) rfl];cases hb:exB ρ ((t.drop i).take 1)<;>rw[hb]at hw hd;·simp(disch:=first|exact Dq|fail)only[go_sem,ie,z,hx,hw,KE];have e1:((i:Int)+1)=((i+1:Nat):Int):=rfl;rw[e1];exact ih (i+1) H2 (by omega) hx2 (by rw[he,hd];rfl)
  ·simp(disch:=first|exact Dq|fail)only[go_sem,ie,z,hx,hw,KE];exact h1 _ _ v rfl rfl (by rw[he,hd];rfl)
theorem r12find(ht:t.length<=1000)(H:Heap):∃rs H',resW Γ 319 [.p (.agg [.int .i64 0,jg ρ]),.p (.str t),.p (.int .i64 0)] H=some (rs,H')/\∃v:PV,rs=[.p v,.p (.bool (exB ρ t))]:=by
 have z1:decide ((0:Int)>(t.length:Int))=false:=decide_eq_false (by omega);refine ci (fn:=wq) (K:=λrs H'=>∃v:PV,rs=[.p v,.p (.bool (exB ρ t))]) rfl rfl ?_;simp(disch:=first|exact Dq|fail)only[go_sem,wq,z1,af,Nat.zero_add];refine Nf (ρ:=ρ) ht _ (λe H v z6 z7 hb=>?_) (λe H hb=>?_) (t.length+1) 0 _ (by omega) (by rw[af];rfl) rfl;·simp(disch:=first|exact Dq|fail)only[go_sem,z6,z7,hb];exact⟨_,rfl⟩
 ·simp(disch:=first|exact Dq|fail)only[go_sem,hb];exact⟨_,rfl⟩
theorem r12is(ht:t.length<=1000)(H:Heap):∃rs H',resW Γ 599 [.p (.agg [.int .i64 0,jg ρ]),.p (.str t)] H=some (rs,H')/\rs=[.p (.bool (exB ρ t))]:=by obtain⟨rs,H2,hw,v,rfl⟩:=@r12find ρ t ht (H++[bxP ρ]);unfold bxP at hw;refine ci (fn:=Lu) (K:=λrs H'=>rs=[.p (.bool (exB ρ t))]) rfl rfl ?_;simp(disch:=first|exact Dq|fail)only[go_sem,Lu,hw,still319,af,Nat.zero_add]
theorem Ey(ht:t.length<=1000):res Γ 590 [.str (if ρ then[98]else[46]),.str t]=some [.bool (exB ρ t)]:=by obtain⟨rs,H2,hw,rfl⟩:=@r12is ρ t ht [bxP ρ];have h1:=@res_309 ρ;unfold bxP at hw;refine ae (fn:=Kz) rfl rfl ?_;simp(disch:=first|exact Dq|fail)only[go_sem,Kz,h1,hw,still599]
end
def schR:PV:=.agg [.str [46],arcP .any]
def rulR:PV:=.agg [.str [98],.int .i64 4,.int .i64 0]
def RuleR(H:Heap)(ru:Nat):Prop:=H[ru]?=some (.box [.p (.sl .any 2 [schR]),.p (.sl .any 3 [rulR])])
theorem RuleR.keep{K:Nat->Prop}{H H':Heap}{ru:Nat}(h:RuleR H ru)(hS:Since K H H')(hk:¬K ru):RuleR H' ru:=hS.box ru _ h hk
theorem Gd{H:Heap}{ru:Nat}(hr:RuleR H ru){s:List UInt8}(hl:s.length<=1000)(h:exB false s=true):∃G k,resW Γ 585 [.bx ru 0,.p (.str s)] H=some ([hdrT (exB true s) k,.p (.bool true)],H++G)/\(H++G)[k]?=some (rowC false)/\H.length<=k:=by
 have i1:=@Ey false s hl;have i2:=@Ey true s hl;simp only[Bool.false_eq_true,if_true,if_false]at i1 i2;rw[h]at i1;unfold RuleR at hr;have l1:=(List.getElem?_eq_some_iff.1 hr).1;have k1:∀G:Heap,(H++G)[ru]?=some (.box [.p (.sl .any 2 [schR]),.p (.sl .any 3 [rulR])]):=λG=>by rw[List.getElem?_append_left l1];exact hr
 suffices h:∃rs H',resW Γ 585 [.bx ru 0,.p (.str s)] H=some (rs,H')/\∃k,rs=[hdrT (exB true s) k,.p (.bool true)]/\(∃G,H'=H++G)/\H'[k]?=some (rowC false)/\H.length<=k by obtain⟨rs,H',e,k,rfl,⟨G,rfl⟩,hk⟩:=h;exact⟨G,k,e,hk⟩
 unfold schR rulR arcP at*;have dk:∀n,decide (ru<H.length+n)=true:=λn=>decide_eq_true (by omega);have ck:(!(ru==H.length+1))=true:=by simp;omega
 refine ci (fn:=gW) rfl rfl ?_;simp(disch:=first|exact Dq|fail)only[go_sem,gW,ba,cu,List.length_append,Nat.zero_add];rw[aa (L:=ik) rfl];simp(disch:=first|exact Dq|fail)only[go_sem,ik,k1,i1,ba,cu,List.length_append,Nat.zero_add];rw[aa (L:=cg) rfl];cases hb:exB true s<;>rw[hb]at i2;·simp(disch:=first|exact Dq|fail)only[go_sem,cg,k1,i2,Nat.zero_add];change Wp Γ cg _ _ _;rw[aa (L:=cg) rfl];simp(disch:=first|exact Dq|fail)only[go_sem,cg,k1,ba,af,aB,Nat.zero_add];refine⟨_,rfl,⟨_,rfl⟩,?_,by omega⟩;rw[ba];rfl
 ·simp(disch:=first|exact Dq|fail)only[go_sem,cg,k1,i2,ba,af,cu,aB,List.length_append,Nat.zero_add,ck];refine⟨_,rfl,⟨_,rfl⟩,?_,by omega⟩;rw[ba];rfl
def cmpB(a b:List UInt8):Int:=if bytesLess a b=true then-1 else if bytesLess b a=true then 1 else 0
def cmpL(a b:Path):Int:=if aV a b=true then-1 else if aV b a=true then 1 else 0
theorem Dl{a b:List UInt8}:cb .lss (.p (.str a)) (.p (.str b))=some (.p (.bool (bytesLess a b))):=rfl
theorem RI{a b:List UInt8}:cb .gtr (.p (.str a)) (.p (.str b))=some (.p (.bool (bytesLess b a))):=by
 have e:(!(bytesLess a b||a==b))=bytesLess b a:=by
  rw[Bool.eq_iff_iff,Bool.not_eq_true',Bool.or_eq_false_iff,less_iff];constructor
  ·rintro⟨h1,h2⟩;have h1:¬a<b:=λh=>by rw[less_iff.2 h]at h1;cases h1
   rcases Classical.em (b<a)with h3|h3;·exact h3
   ·have :=List.le_antisymm h3 h1;subst this;simp at h2
  ·intro h;refine⟨?_,?_⟩
   ·cases e:bytesLess a b;·rfl
    ·exact absurd h (List.lt_asymm (less_iff.1 e))
   ·cases e:(a==b);·rfl
    ·have :a=b:=by simpa using e
     subst this;exact absurd h (List.lt_irrefl _)
 show some (AV.p (PV.bool (!(bytesLess a b||a==b))))=_;rw[e]
theorem FD(a:List UInt8):res Γ 436 [.str a]=some [.bool false]:=by refine ae (fn:=cmp_isNaN_string) rfl rfl ?_;simp(disch:=first|exact Dq|fail)only[go_sem,cmp_isNaN_string];simp
theorem ME(a b:List UInt8):res Γ 430 [.str a,.str b]=some [.int .i64 (cmpB a b)]:=by
 have h1:=FD a;have h2:=FD b;refine ae (fn:=da) rfl rfl ?_;unfold cmpB;cases e1:bytesLess a b
 ·cases e2:bytesLess b a;·simp(disch:=first|exact Dq|fail)only[go_sem,da,h1,h2,Dl,RI,e1,e2]
  ·simp(disch:=first|exact Dq|fail)only[go_sem,da,h1,h2,Dl,RI,e1,e2]
 ·simp(disch:=first|exact Dq|fail)only[go_sem,da,h1,h2,Dl,e1]
theorem cmpB_zero{a b:List UInt8}:cmpB a b=0↔a=b:=by
 unfold cmpB;constructor
 ·intro h;split at h;·cases h
  ·rename_i h1;split at h;·cases h
   ·rename_i h2;exact List.le_antisymm (λh=>h2 (less_iff.2 h)) (λh=>h1 (less_iff.2 h))
 ·rintro rfl;have :bytesLess a a=false:=by
   cases e:bytesLess a a;·rfl
   ·exact absurd (less_iff.1 e) (List.lt_irrefl _)
  simp[this]
theorem RH(a b:List UInt8)(x y:Path):cmpL (a::x) (b::y)=if cmpB a b=0 then cmpL x y else cmpB a b:=by
 by_cases hab:a=b
 ·subst hab;have :bytesLess a a=false:=by
   cases e:bytesLess a a;·rfl
   ·exact absurd (less_iff.1 e) (List.lt_irrefl _)
  rw[if_pos (cmpB_zero.2 rfl)];simp[cmpL,aV,this]
 ·rw[if_neg (λh=>hab (cmpB_zero.1 h))];have h1:(a==b)=false:=by simpa using hab
  have h2:(b==a)=false:=by simpa usingλe=>hab e.symm
  simp[cmpL,cmpB,aV,h1,h2]
theorem DI{k1 k2:SK}(A B:Path)(_hA:A.length<=1000000)(hB:B.length<=1000000)(Q:Out->Prop)(hQ1:∀e,look e 4=.p (.int .i64 (cmpL A B))->Q (.ret,e,[]))(hQ2:(A.length<=B.length/\cmpL A B=if A.length<B.length then-1 else 0)->∀e,look e 0=.p (.sl k1 1 (strs A))->look e 1=.p (.sl k2 1 (strs B))->Q (.ex 0,e,[])):∀(f i:Nat),i+f=A.length->i<=B.length->cmpL (A.drop i) (B.drop i)=cmpL A B->Wp Γ aq [(0,.p (.sl k1 1 (strs A))),(1,.p (.sl k2 1 (strs B))),(9,.p (.sl k1 1 (strs A))),(10,.p (.int .i64 (A.length:Int))),(11,.p (.int .i64 (i:Int)))] [] Q:=by intro f;induction f with
 |zero=>
  intro i hi hb hc;have hi:i=A.length:=by omega
  subst hi;rw[aa (L:=aq) rfl];simp(disch:=first|exact Dq|fail)only[go_sem,aq];refine hQ2 ⟨hb,?_⟩ _ rfl rfl;rw[<-hc,List.drop_length];cases hd:B.drop A.length with
  |nil=>have :B.length<=A.length:=List.drop_eq_nil_iff.1 hd;rw[if_neg (by omega)];rfl|cons b t=>
   have :¬B.length<=A.length:=λh=>by rw[List.drop_eq_nil_iff.2 h]at hd;cases hd
   rw[if_pos (by omega)];rfl
 |succ f ih=>
  intro i hi hb hc;have hlt:i<A.length:=by omega
  have hdA:A.drop i=A.getD i []::A.drop (i+1):=by rw[List.drop_eq_getElem_cons hlt,List.getD_eq_getElem?_getD,List.getElem?_eq_getElem hlt];rfl
  by_cases hbe:i=B.length
  ·have e:cmpL A B=1:=by rw[<-hc,hdA,hbe,List.drop_length];rfl
   have hge:(B.length:Int)<=(i:Int):=by omega
   rw[aa (L:=aq) rfl];simp(disch:=first|exact Dq|fail)only[go_sem,aq];exact hQ1 _ (by rw[e];rfl)
  ·have hltB:i<B.length:=by omega
   have hdB:B.drop i=B.getD i []::B.drop (i+1):=by rw[List.drop_eq_getElem_cons hltB,List.getD_eq_getElem?_getD,List.getElem?_eq_getElem hltB];rfl
   rw[hdA,hdB,RH]at hc;have hcs:=ME (A.getD i []) (B.getD i []);by_cases hz:cmpB (A.getD i []) (B.getD i [])=0;·rw[if_pos hz]at hc;rw[hz]at hcs;have ih:=ih (i+1) (by omega) (by omega) hc;rw[aa (L:=aq) rfl];simp(disch:=first|exact Dq|fail)only[go_sem,aq,hcs];exact ih
   ·rw[if_neg hz]at hc;rw[aa (L:=aq) rfl];simp(disch:=first|exact Dq|fail)only[go_sem,aq,hcs];exact hQ1 _ (by rw[<-hc];rfl)
theorem FN{k1 k2:SK}(A B:Path)(hA:A.length<=1000000)(hB:B.length<=1000000):res Γ 424 [.sl k1 1 (strs A),.sl k2 1 (strs B)]=some [.int .i64 (cmpL A B)]:=by
 refine ae (fn:=ct) rfl rfl ?_;simp(disch:=first|exact Dq|fail)only[go_sem,ct];refine DI A B hA hB _ (λe he=>?_) (λ⟨h1,h2⟩e e0 e1=>?_) A.length 0 (by omega) (by omega) rfl;·simp(disch:=first|exact Dq|fail)only[go_sem,he]
 ·by_cases hlt:A.length<B.length;·rw[if_pos hlt]at h2;simp(disch:=first|exact Dq|fail)only[go_sem,e0,e1,h2]
  ·rw[if_neg hlt]at h2;simp(disch:=first|exact Dq|fail)only[go_sem,e0,e1,h2]
theorem JK(a b:List UInt8×Bool)(ha:a.1.length<=1000)(hb:b.1.length<=1000):res Γ 410 [hitP a,hitP b]=some [.int .i64 (cmpH a b)]:=by
 obtain⟨a,la⟩:=a;obtain⟨b,lb⟩:=b;simp only at ha hb;have hpa:=iI a (by omega);have hpb:=iI b (by omega);have hca:=bz 46 a;have hca2:=@count_le a 46;have hcb:=bz 46 b;have hcb2:=@count_le b 46;have hc:=FN (k1:=.any) (k2:=.any) (splitB 46 a) (splitB 46 b) (by omega) (by omega);have e:cmpH (a,la) (b,lb)=if cmpL (prt a) (prt b)=0 then(if(la==lb)=true then 0 else if la=true then 1 else-1)else cmpL (prt a) (prt b):=by
  simp only[cmpH,QA,cmpL];split;·rfl
  ·split<;>rfl
 rw[e];unfold hitP;by_cases hz:cmpL (splitB 46 a) (splitB 46 b)=0;·rw[hz]at hc;have hz':cmpL (prt a) (prt b)=0:=hz;rw[if_pos hz'];refine ae (fn:=gq) rfl rfl ?_;cases la<;>cases lb<;>simp(disch:=first|exact Dq|fail)only[go_sem,gq,hpa,hpb,hc]<;>rfl
 ·have hz':¬cmpL (prt a) (prt b)=0:=hz;rw[if_neg hz'];refine ae (fn:=gq) rfl rfl ?_;simp(disch:=first|exact Dq|fail)only[go_sem,gq,hpa,hpb,hc]
theorem nY{a:List UInt8}:∀{alts:List (List UInt8)},a∈alts->a.length<=(bv alts).length
 |[],h=>by cases h|[b],h=>by rw[List.mem_singleton]at h;subst h;exact Nat.le_refl _|b::c::r,h=>by
  rw[jt (by simp),List.length_append,List.length_cons];rcases List.mem_cons.1 h with rfl|h;·omega
  ·have :=nY (alts:=c::r) h;omega
theorem wV{a b:List (List UInt8)}{x:List UInt8}(h:x∈bJ a b):∃y z,y∈a/\z∈b/\x=y++z:=by unfold bJ at h;obtain⟨y,hy,hx⟩:=List.mem_flatMap.1 h;obtain⟨z,hz,rfl⟩:=List.mem_map.1 hx;exact⟨y,z,hy,hz,rfl⟩
theorem xY{u:List UInt8}{out:List (List UInt8)}(h:Exp u out):∀x∈out,x.length<=u.length:=by induction h with|run p hp=>intro x hx;rw[List.mem_singleton]at hx;subst hx;exact Nat.le_refl _|grp p alts f u l hp ha hf hu ih ihu=>intro x hx;obtain⟨y,z,hy,hz,rfl⟩:=wV hx;rw[List.mem_singleton]at hy;subst hy;obtain⟨v,w,hv,hw,rfl⟩:=wV hz;obtain⟨a,ha',hv⟩:=List.mem_flatMap.1 hv;have h1:=ih a ha' v hv;have h2:=nY ha';have h3:=ihu w hw;simp only[List.length_append,List.length_cons];omega
theorem io{A B:List (List UInt8)}{i:Nat}(h:i<A.length):bJ (A.drop i) B=B.map (A.getD i []++·)++bJ (A.drop (i+1)) B:=by unfold bJ;rw[List.drop_eq_getElem_cons h,List.flatMap_cons];simp[List.getElem?_eq_getElem h]
theorem sR{A B:List (List UInt8)}:bJ (A.drop A.length) B=[]:=by rw[List.drop_length];rfl
abbrev rdB(s:List UInt8)(at_:Int)(ov:Bool):Blk:=.box [.p (.str s),.p (.int .i64 at_),.p (.bool ov)]
theorem rH{B:List (List UInt8)}{j:Nat}{x:List UInt8}(h:j<B.length):(B.drop j).map (x++·)=(x++B.getD j [])::(B.drop (j+1)).map (x++·):=by rw[List.drop_eq_getElem_cons h,List.map_cons];simp[List.getElem?_eq_getElem h]
theorem ib{a b:Nat}(ha:a<=512)(hb:b<=2000):(0:Int)<=(a:Int)*(b:Int)/\(a:Int)*(b:Int)<=1024000:=by
 have :=Nat.mul_le_mul ha hb;constructor;·exact Int.mul_nonneg (by omega) (by omega)
 ·have :((a*b:Nat):Int)<=((512*2000:Nat):Int):=by omega
  rw[Int.natCast_mul]at this;exact this
theorem rG{a b:Nat}{c:Int}(h:((a*b:Nat):Int)<=c):(a:Int)*(b:Int)<=c:=by rw[Int.natCast_mul]at h;exact h
theorem Bl{a b:Nat}{c:Int}(h:c<((a*b:Nat):Int)):c<(a:Int)*(b:Int):=by rw[Int.natCast_mul]at h;exact h
set_option maxRecDepth 10000 in
theorem Hr{kA:SK}{kB:SK}(s:List UInt8)(at_:Int)(ov:Bool)(A B:List (List UInt8))(hB:B.length<=2000)(x:List UInt8)(hx:x.length<=1000000)(hy:∀y∈B,y.length<=1000000)(i:Int)(Q:Out->Prop):∀(n j:Nat)(D:List (List UInt8)),j+n=B.length->D.length+n<=1000000->Q (.nrm,[(2,.p (.sl kB 1 (strs B))),(7,.own 1 (D++(B.drop j).map (x++·)).length),(27,.p (.sl kA 1 (strs A))),(28,.p (.int .i64 (A.length:Int))),(29,.p (.int .i64 i))],[rdB s at_ ov,.row false 1 (strs (D++(B.drop j).map (x++·)))])->Wp Γ aH [(2,.p (.sl kB 1 (strs B))),(7,.own 1 D.length),(9,.p (.str x)),(27,.p (.sl kA 1 (strs A))),(28,.p (.int .i64 (A.length:Int))),(29,.p (.int .i64 i)),(33,.p (.sl kB 1 (strs B))),(34,.p (.int .i64 (B.length:Int))),(35,.p (.int .i64 (j:Int)))] [rdB s at_ ov,.row false 1 (strs D)] (aW [2,7,27,28,29] 2 Q):=by intro n;induction n with
 |zero=>
  intro j D hj hD hQ;obtain rfl:j=B.length:=by omega
  rw[List.drop_length,List.map_nil,List.append_nil]at hQ;rw[aa (L:=aH) rfl];simp(disch:=first|exact Dq|fail)only[go_sem];exact hQ|succ n ih=>
  intro j D hj hD hQ;have hlt:j<B.length:=by omega
  have hyj:=hy _ (getD_mem hlt);have ih:=ih (j+1) (D++[x++B.getD j []]) (by omega) (by simp;omega) (by rw[rH hlt]at hQ;rw[List.append_assoc];exact hQ);rw[List.length_append]at ih;rw[aa (L:=aH) rfl];simp(disch:=first|exact Dq|fail)only[go_sem];exact ih
set_option maxRecDepth 10000 in
theorem Hs{kA:SK}{kB:SK}(s:List UInt8)(at_:Int)(ov:Bool)(A B:List (List UInt8))(hA:A.length<=512)(hB:B.length<=2000)(hx:∀x∈A,x.length<=1000000)(hy:∀y∈B,y.length<=1000000)(Q:Out->Prop):∀(n i:Nat)(D:List (List UInt8)),i+n=A.length->D.length+(bJ (A.drop i) B).length<=512->Q (.nrm,[(7,.own 1 (D++bJ (A.drop i) B).length)],[rdB s at_ ov,.row false 1 (strs (D++bJ (A.drop i) B))])->Wp Γ aG [(2,.p (.sl kB 1 (strs B))),(7,.own 1 D.length),(27,.p (.sl kA 1 (strs A))),(28,.p (.int .i64 (A.length:Int))),(29,.p (.int .i64 (i:Int)))] [rdB s at_ ov,.row false 1 (strs D)] (aW [7] 0 Q):=by intro n;induction n with
 |zero=>
  intro i D hi hD hQ;obtain rfl:i=A.length:=by omega
  rw[sR,List.append_nil]at hQ;rw[aa (L:=aG) rfl];simp(disch:=first|exact Dq|fail)only[go_sem];exact hQ|succ n ih=>
  intro i D hi hD hQ;have hlt:i<A.length:=by omega
  have hxi:=hx _ (getD_mem hlt);rw[io hlt,List.length_append,List.length_map]at hD;have ih:=ih (i+1) (D++B.map (A.getD i []++·)) (by omega) (by rw[List.length_append,List.length_map];omega) (by rw[io hlt]at hQ;rw[List.append_assoc];exact hQ);rw[aa (L:=aG) rfl];simp(disch:=first|exact Dq|fail)only[go_sem];refine Hr s at_ ov A B hB (A.getD i []) hxi hy i _ B.length 0 D (by omega) (by omega) ?_;rw[List.drop_zero];simp(disch:=first|exact Dq|fail)only[go_sem];exact ih
set_option maxRecDepth 10000 in
theorem Ej{kA:SK}{kB:SK}(s:List UInt8)(at_:Int)(A B:List (List UInt8))(hA:A.length<=512)(hB:B.length<=2000)(hAB:A.length*B.length<=512)(hx:∀x∈A,x.length<=1000000)(hy:∀y∈B,y.length<=1000000):resM Γ 1 51 [.bx 0 0,.p (.sl kA 1 (strs A)),.p (.sl kB 1 (strs B))] [rdB s at_ false]=some ([.own 1 (bJ A B).length],[rdB s at_ false,.row false 1 (strs (bJ A B))]):=by obtain⟨hp0,hp1⟩:=ib hA hB;have hp2:(A.length:Int)*(B.length:Int)<=512:=rG (by omega);refine eK (fn:=aD) rfl rfl ?_;simp(disch:=first|exact Dq|fail)only[go_sem,aD];refine Hs s at_ false A B hA hB hx hy _ A.length 0 [] (by omega) (by rw[List.drop_zero,dJ];simpa using hAB) ?_;rw[List.drop_zero,List.nil_append];simp(disch:=first|exact Dq|fail)only[go_sem]
set_option maxRecDepth 10000 in
theorem HZ{fA:Bool}{kB:SK}(s:List UInt8)(at_:Int)(ov:Bool)(A B:List (List UInt8))(hB:B.length<=2000)(x:List UInt8)(hx:x.length<=1000000)(hy:∀y∈B,y.length<=1000000)(i:Int)(Q:Out->Prop):∀(n j:Nat)(D:List (List UInt8)),j+n=B.length->D.length+n<=1000000->Q (.nrm,[(2,.p (.sl kB 1 (strs B))),(7,.own 2 (D++(B.drop j).map (x++·)).length),(27,.own 1 A.length),(28,.p (.int .i64 (A.length:Int))),(29,.p (.int .i64 i))],[rdB s at_ ov,.row fA 1 (strs A),.row false 1 (strs (D++(B.drop j).map (x++·)))])->Wp Γ aH [(2,.p (.sl kB 1 (strs B))),(7,.own 2 D.length),(9,.p (.str x)),(27,.own 1 A.length),(28,.p (.int .i64 (A.length:Int))),(29,.p (.int .i64 i)),(33,.p (.sl kB 1 (strs B))),(34,.p (.int .i64 (B.length:Int))),(35,.p (.int .i64 (j:Int)))] [rdB s at_ ov,.row fA 1 (strs A),.row false 1 (strs D)] (aW [2,7,27,28,29] 2 Q):=by intro n;induction n with
 |zero=>
  intro j D hj hD hQ;obtain rfl:j=B.length:=by omega
  rw[List.drop_length,List.map_nil,List.append_nil]at hQ;rw[aa (L:=aH) rfl];simp(disch:=first|exact Dq|fail)only[go_sem];exact hQ|succ n ih=>
  intro j D hj hD hQ;have hlt:j<B.length:=by omega
  have hyj:=hy _ (getD_mem hlt);have ih:=ih (j+1) (D++[x++B.getD j []]) (by omega) (by simp;omega) (by rw[rH hlt]at hQ;rw[List.append_assoc];exact hQ);rw[List.length_append]at ih;rw[aa (L:=aH) rfl];simp(disch:=first|exact Dq|fail)only[go_sem];exact ih
set_option maxRecDepth 10000 in
theorem HJ{fA:Bool}{kB:SK}(s:List UInt8)(at_:Int)(ov:Bool)(A B:List (List UInt8))(hA:A.length<=512)(hB:B.length<=2000)(hx:∀x∈A,x.length<=1000000)(hy:∀y∈B,y.length<=1000000)(Q:Out->Prop):∀(n i:Nat)(D:List (List UInt8)),i+n=A.length->D.length+(bJ (A.drop i) B).length<=512->Q (.nrm,[(7,.own 2 (D++bJ (A.drop i) B).length)],[rdB s at_ ov,.row fA 1 (strs A),.row false 1 (strs (D++bJ (A.drop i) B))])->Wp Γ aG [(2,.p (.sl kB 1 (strs B))),(7,.own 2 D.length),(27,.own 1 A.length),(28,.p (.int .i64 (A.length:Int))),(29,.p (.int .i64 (i:Int)))] [rdB s at_ ov,.row fA 1 (strs A),.row false 1 (strs D)] (aW [7] 0 Q):=by intro n;induction n with
 |zero=>
  intro i D hi hD hQ;obtain rfl:i=A.length:=by omega
  rw[sR,List.append_nil]at hQ;rw[aa (L:=aG) rfl];simp(disch:=first|exact Dq|fail)only[go_sem];exact hQ|succ n ih=>
  intro i D hi hD hQ;have hlt:i<A.length:=by omega
  have hxi:=hx _ (getD_mem hlt);rw[io hlt,List.length_append,List.length_map]at hD;have ih:=ih (i+1) (D++B.map (A.getD i []++·)) (by omega) (by rw[List.length_append,List.length_map];omega) (by rw[io hlt]at hQ;rw[List.append_assoc];exact hQ);rw[aa (L:=aG) rfl];simp(disch:=first|exact Dq|fail)only[go_sem];refine HZ s at_ ov A B hB (A.getD i []) hxi hy i _ B.length 0 D (by omega) (by omega) ?_;rw[List.drop_zero];simp(disch:=first|exact Dq|fail)only[go_sem];exact ih
set_option maxRecDepth 10000 in
theorem DG{fA:Bool}{kB:SK}(s:List UInt8)(at_:Int)(A B:List (List UInt8))(hA:A.length<=512)(hB:B.length<=2000)(hAB:A.length*B.length<=512)(hx:∀x∈A,x.length<=1000000)(hy:∀y∈B,y.length<=1000000):resM Γ 2 51 [.bx 0 0,.own 1 A.length,.p (.sl kB 1 (strs B))] [rdB s at_ false,.row fA 1 (strs A)]=some ([.own 2 (bJ A B).length],[rdB s at_ false,.row fA 1 (strs A),.row false 1 (strs (bJ A B))]):=by obtain⟨hp0,hp1⟩:=ib hA hB;have hp2:(A.length:Int)*(B.length:Int)<=512:=rG (by omega);refine eK (fn:=aD) rfl rfl ?_;simp(disch:=first|exact Dq|fail)only[go_sem,aD];refine HJ s at_ false A B hA hB hx hy _ A.length 0 [] (by omega) (by rw[List.drop_zero,dJ];simpa using hAB) ?_;rw[List.drop_zero,List.nil_append];simp(disch:=first|exact Dq|fail)only[go_sem]
set_option maxRecDepth 10000 in
theorem IW{kA:SK}{fB:Bool}(s:List UInt8)(at_:Int)(ov:Bool)(A B:List (List UInt8))(hB:B.length<=2000)(x:List UInt8)(hx:x.length<=1000000)(hy:∀y∈B,y.length<=1000000)(i:Int)(Q:Out->Prop):∀(n j:Nat)(D:List (List UInt8)),j+n=B.length->D.length+n<=1000000->Q (.nrm,[(2,.own 1 B.length),(7,.own 2 (D++(B.drop j).map (x++·)).length),(27,.p (.sl kA 1 (strs A))),(28,.p (.int .i64 (A.length:Int))),(29,.p (.int .i64 i))],[rdB s at_ ov,.row fB 1 (strs B),.row false 1 (strs (D++(B.drop j).map (x++·)))])->Wp Γ aH [(2,.own 1 B.length),(7,.own 2 D.length),(9,.p (.str x)),(27,.p (.sl kA 1 (strs A))),(28,.p (.int .i64 (A.length:Int))),(29,.p (.int .i64 i)),(33,.own 1 B.length),(34,.p (.int .i64 (B.length:Int))),(35,.p (.int .i64 (j:Int)))] [rdB s at_ ov,.row fB 1 (strs B),.row false 1 (strs D)] (aW [2,7,27,28,29] 2 Q):=by intro n;induction n with
 |zero=>
  intro j D hj hD hQ;obtain rfl:j=B.length:=by omega
  rw[List.drop_length,List.map_nil,List.append_nil]at hQ;rw[aa (L:=aH) rfl];simp(disch:=first|exact Dq|fail)only[go_sem];exact hQ|succ n ih=>
  intro j D hj hD hQ;have hlt:j<B.length:=by omega
  have hyj:=hy _ (getD_mem hlt);have ih:=ih (j+1) (D++[x++B.getD j []]) (by omega) (by simp;omega) (by rw[rH hlt]at hQ;rw[List.append_assoc];exact hQ);rw[List.length_append]at ih;rw[aa (L:=aH) rfl];simp(disch:=first|exact Dq|fail)only[go_sem];exact ih
set_option maxRecDepth 10000 in
theorem JL{kA:SK}{fB:Bool}(s:List UInt8)(at_:Int)(ov:Bool)(A B:List (List UInt8))(hA:A.length<=512)(hB:B.length<=2000)(hx:∀x∈A,x.length<=1000000)(hy:∀y∈B,y.length<=1000000)(Q:Out->Prop):∀(n i:Nat)(D:List (List UInt8)),i+n=A.length->D.length+(bJ (A.drop i) B).length<=512->Q (.nrm,[(7,.own 2 (D++bJ (A.drop i) B).length)],[rdB s at_ ov,.row fB 1 (strs B),.row false 1 (strs (D++bJ (A.drop i) B))])->Wp Γ aG [(2,.own 1 B.length),(7,.own 2 D.length),(27,.p (.sl kA 1 (strs A))),(28,.p (.int .i64 (A.length:Int))),(29,.p (.int .i64 (i:Int)))] [rdB s at_ ov,.row fB 1 (strs B),.row false 1 (strs D)] (aW [7] 0 Q):=by intro n;induction n with
 |zero=>
  intro i D hi hD hQ;obtain rfl:i=A.length:=by omega
  rw[sR,List.append_nil]at hQ;rw[aa (L:=aG) rfl];simp(disch:=first|exact Dq|fail)only[go_sem];exact hQ|succ n ih=>
  intro i D hi hD hQ;have hlt:i<A.length:=by omega
  have hxi:=hx _ (getD_mem hlt);rw[io hlt,List.length_append,List.length_map]at hD;have ih:=ih (i+1) (D++B.map (A.getD i []++·)) (by omega) (by rw[List.length_append,List.length_map];omega) (by rw[io hlt]at hQ;rw[List.append_assoc];exact hQ);rw[aa (L:=aG) rfl];simp(disch:=first|exact Dq|fail)only[go_sem];refine IW s at_ ov A B hB (A.getD i []) hxi hy i _ B.length 0 D (by omega) (by omega) ?_;rw[List.drop_zero];simp(disch:=first|exact Dq|fail)only[go_sem];exact ih
set_option maxRecDepth 10000 in
theorem Dt{kA:SK}{fB:Bool}(s:List UInt8)(at_:Int)(A B:List (List UInt8))(hA:A.length<=512)(hB:B.length<=2000)(hAB:A.length*B.length<=512)(hx:∀x∈A,x.length<=1000000)(hy:∀y∈B,y.length<=1000000):resM Γ 2 51 [.bx 0 0,.p (.sl kA 1 (strs A)),.own 1 B.length] [rdB s at_ false,.row fB 1 (strs B)]=some ([.own 2 (bJ A B).length],[rdB s at_ false,.row fB 1 (strs B),.row false 1 (strs (bJ A B))]):=by obtain⟨hp0,hp1⟩:=ib hA hB;have hp2:(A.length:Int)*(B.length:Int)<=512:=rG (by omega);refine eK (fn:=aD) rfl rfl ?_;simp(disch:=first|exact Dq|fail)only[go_sem,aD];refine JL s at_ false A B hA hB hx hy _ A.length 0 [] (by omega) (by rw[List.drop_zero,dJ];simpa using hAB) ?_;rw[List.drop_zero,List.nil_append];simp(disch:=first|exact Dq|fail)only[go_sem]
set_option maxRecDepth 10000 in
theorem AZ{kA:SK}{fB:Bool}(s:List UInt8)(at_:Int)(A B:List (List UInt8))(hA:A.length<=512)(hB:B.length<=2000){ov:Bool}(h:ov=true\/512<A.length*B.length):resM Γ 2 51 [.bx 0 0,.p (.sl kA 1 (strs A)),.own 1 B.length] [rdB s at_ ov,.row fB 1 (strs B)]=some ([.p (.sl .nil 1 [])],[rdB s at_ true,.row fB 1 (strs B)]):=by
 obtain⟨hp0,hp1⟩:=ib hA hB;refine eK (fn:=aD) rfl rfl ?_;cases ov
 ·have hp2:512<(A.length:Int)*(B.length:Int):=by
   rcases h with h|h;·cases h
   ·exact Bl (by omega)
  simp(disch:=first|exact Dq|fail)only[go_sem,aD]
 ·simp(disch:=first|exact Dq|fail)only[go_sem,aD]
set_option maxRecDepth 10000 in
theorem IY{fA:Bool}{fB:Bool}(s:List UInt8)(at_:Int)(ov:Bool)(A B:List (List UInt8))(hB:B.length<=2000)(x:List UInt8)(hx:x.length<=1000000)(hy:∀y∈B,y.length<=1000000)(i:Int)(Q:Out->Prop):∀(n j:Nat)(D:List (List UInt8)),j+n=B.length->D.length+n<=1000000->Q (.nrm,[(2,.own 2 B.length),(7,.own 3 (D++(B.drop j).map (x++·)).length),(27,.own 1 A.length),(28,.p (.int .i64 (A.length:Int))),(29,.p (.int .i64 i))],[rdB s at_ ov,.row fA 1 (strs A),.row fB 1 (strs B),.row false 1 (strs (D++(B.drop j).map (x++·)))])->Wp Γ aH [(2,.own 2 B.length),(7,.own 3 D.length),(9,.p (.str x)),(27,.own 1 A.length),(28,.p (.int .i64 (A.length:Int))),(29,.p (.int .i64 i)),(33,.own 2 B.length),(34,.p (.int .i64 (B.length:Int))),(35,.p (.int .i64 (j:Int)))] [rdB s at_ ov,.row fA 1 (strs A),.row fB 1 (strs B),.row false 1 (strs D)] (aW [2,7,27,28,29] 2 Q):=by intro n;induction n with
 |zero=>
  intro j D hj hD hQ;obtain rfl:j=B.length:=by omega
  rw[List.drop_length,List.map_nil,List.append_nil]at hQ;rw[aa (L:=aH) rfl];simp(disch:=first|exact Dq|fail)only[go_sem];exact hQ|succ n ih=>
  intro j D hj hD hQ;have hlt:j<B.length:=by omega
  have hyj:=hy _ (getD_mem hlt);have ih:=ih (j+1) (D++[x++B.getD j []]) (by omega) (by simp;omega) (by rw[rH hlt]at hQ;rw[List.append_assoc];exact hQ);rw[List.length_append]at ih;rw[aa (L:=aH) rfl];simp(disch:=first|exact Dq|fail)only[go_sem];exact ih
set_option maxRecDepth 10000 in
theorem Hq{fA:Bool}{fB:Bool}(s:List UInt8)(at_:Int)(ov:Bool)(A B:List (List UInt8))(hA:A.length<=512)(hB:B.length<=2000)(hx:∀x∈A,x.length<=1000000)(hy:∀y∈B,y.length<=1000000)(Q:Out->Prop):∀(n i:Nat)(D:List (List UInt8)),i+n=A.length->D.length+(bJ (A.drop i) B).length<=512->Q (.nrm,[(7,.own 3 (D++bJ (A.drop i) B).length)],[rdB s at_ ov,.row fA 1 (strs A),.row fB 1 (strs B),.row false 1 (strs (D++bJ (A.drop i) B))])->Wp Γ aG [(2,.own 2 B.length),(7,.own 3 D.length),(27,.own 1 A.length),(28,.p (.int .i64 (A.length:Int))),(29,.p (.int .i64 (i:Int)))] [rdB s at_ ov,.row fA 1 (strs A),.row fB 1 (strs B),.row false 1 (strs D)] (aW [7] 0 Q):=by intro n;induction n with
 |zero=>
  intro i D hi hD hQ;obtain rfl:i=A.length:=by omega
  rw[sR,List.append_nil]at hQ;rw[aa (L:=aG) rfl];simp(disch:=first|exact Dq|fail)only[go_sem];exact hQ|succ n ih=>
  intro i D hi hD hQ;have hlt:i<A.length:=by omega
  have hxi:=hx _ (getD_mem hlt);rw[io hlt,List.length_append,List.length_map]at hD;have ih:=ih (i+1) (D++B.map (A.getD i []++·)) (by omega) (by rw[List.length_append,List.length_map];omega) (by rw[io hlt]at hQ;rw[List.append_assoc];exact hQ);rw[aa (L:=aG) rfl];simp(disch:=first|exact Dq|fail)only[go_sem];refine IY s at_ ov A B hB (A.getD i []) hxi hy i _ B.length 0 D (by omega) (by omega) ?_;rw[List.drop_zero];simp(disch:=first|exact Dq|fail)only[go_sem];exact ih
set_option maxRecDepth 10000 in
theorem Cu{fA:Bool}{fB:Bool}(s:List UInt8)(at_:Int)(A B:List (List UInt8))(hA:A.length<=512)(hB:B.length<=2000)(hAB:A.length*B.length<=512)(hx:∀x∈A,x.length<=1000000)(hy:∀y∈B,y.length<=1000000):resM Γ 3 51 [.bx 0 0,.own 1 A.length,.own 2 B.length] [rdB s at_ false,.row fA 1 (strs A),.row fB 1 (strs B)]=some ([.own 3 (bJ A B).length],[rdB s at_ false,.row fA 1 (strs A),.row fB 1 (strs B),.row false 1 (strs (bJ A B))]):=by obtain⟨hp0,hp1⟩:=ib hA hB;have hp2:(A.length:Int)*(B.length:Int)<=512:=rG (by omega);refine eK (fn:=aD) rfl rfl ?_;simp(disch:=first|exact Dq|fail)only[go_sem,aD];refine Hq s at_ false A B hA hB hx hy _ A.length 0 [] (by omega) (by rw[List.drop_zero,dJ];simpa using hAB) ?_;rw[List.drop_zero,List.nil_append];simp(disch:=first|exact Dq|fail)only[go_sem]
set_option maxRecDepth 10000 in
theorem AD{fA:Bool}{fB:Bool}(s:List UInt8)(at_:Int)(A B:List (List UInt8))(hA:A.length<=512)(hB:B.length<=2000){ov:Bool}(h:ov=true\/512<A.length*B.length):resM Γ 3 51 [.bx 0 0,.own 1 A.length,.own 2 B.length] [rdB s at_ ov,.row fA 1 (strs A),.row fB 1 (strs B)]=some ([.p (.sl .nil 1 [])],[rdB s at_ true,.row fA 1 (strs A),.row fB 1 (strs B)]):=by
 obtain⟨hp0,hp1⟩:=ib hA hB;refine eK (fn:=aD) rfl rfl ?_;cases ov
 ·have hp2:512<(A.length:Int)*(B.length:Int):=by
   rcases h with h|h;·cases h
   ·exact Bl (by omega)
  simp(disch:=first|exact Dq|fail)only[go_sem,aD]
 ·simp(disch:=first|exact Dq|fail)only[go_sem,aD]
def stV(b:Bool)(l:List (List UInt8)):AV:=match b with|true=>.p (.sl .tight 1 (strs l))|false=>.own 1 l.length
def stH(b:Bool)(s:List UInt8)(at_:Int)(l:List (List UInt8)):Heap:=match b with|true=>[rdB s at_ false]|false=>[rdB s at_ false,.row false 1 (strs l)]
def Stop(r:List UInt8):Prop:=r=[]\/∃c t,r=c::t/\(c=44\/c=125)
abbrev kW(env:Env)(H:Heap)(v:AV)(H2:Heap):Prop:=norm [0,3] (some 1) env H=some ([(0,.bx 0 0),(3,v)],H2)
theorem fj{s:List UInt8}{i:Nat}{c:UInt8}{t:List UInt8}(h:s.drop i=c::t):i<s.length/\s.getD i 0=c/\s.drop (i+1)=t:=by obtain⟨h1,h2,h3,_⟩:=drop_cons h;exact⟨h1,(aR c).1 h2,h3⟩
theorem PN{s:List UInt8}(_hs:s.length<900000000){at_:Nat}(ha:at_<=s.length){b:Bool}{l:List (List UInt8)}{env:Env}{H:Heap}{Q:Out->Prop}(hN:kW env H (stV b l) (stH b s at_ l))(hst:Stop (s.drop at_))(fin:Q (.ret,[(2,stV b l)],stH b s at_ l)/\Q (.nrm,[(3,stV b l)],stH b s at_ l)):Wp Γ am env H (aW [3] 0 Q):=by
 obtain⟨f1,f2⟩:=fin;rcases hst with h|⟨c,t,h,hc⟩
 ·have :=drop_nil h;obtain rfl:at_=s.length:=by omega
  cases b;·unfold stV stH at*;rw[aa (L:=am) rfl];rw[hN];simp(disch:=first|exact Dq|fail)only[go_sem];exact f2
  ·unfold stV stH at*;rw[aa (L:=am) rfl];rw[hN];simp(disch:=first|exact Dq|fail)only[go_sem];exact f2
 ·obtain⟨h1,h2,h3⟩:=fj h;have hb:byt s at_=44\/byt s at_=125:=by
   rcases hc with rfl|rfl;·exact .inl ((aR 44).2 h2)
   ·exact .inr ((aR 125).2 h2)
  rcases hb with hb|hb
  ·cases b;·unfold stV stH at*;rw[aa (L:=am) rfl];rw[hN];simp(disch:=first|exact Dq|fail)only[go_sem,hb];exact f1
   ·unfold stV stH at*;rw[aa (L:=am) rfl];rw[hN];simp(disch:=first|exact Dq|fail)only[go_sem,hb];exact f1
  ·cases b;·unfold stV stH at*;rw[aa (L:=am) rfl];rw[hN];simp(disch:=first|exact Dq|fail)only[go_sem,hb];exact f1
   ·unfold stV stH at*;rw[aa (L:=am) rfl];rw[hN];simp(disch:=first|exact Dq|fail)only[go_sem,hb];exact f1
theorem EP{f:UInt8->Bool}:∀{p:List UInt8},(∀c∈p,f c=false)->ixP f p=-1
 |[],_=>rfl|c::p,h=>by have e:ixP f (c::p)=if f c=true then 0 else if ixP f p=-1 then-1 else ixP f p+1:=rfl;rw[e,h c (by simp),if_neg (by decide),EP λx hx=>h x (by simp[hx]),if_pos rfl]
theorem Kx{f:UInt8->Bool}{c:UInt8}{t:List UInt8}(hc:f c=true):∀{p:List UInt8},(∀c∈p,f c=false)->ixP f (p++c::t)=(p.length:Int)
 |[],_=>by have e:ixP f (c::t)=if f c=true then 0 else if ixP f t=-1 then-1 else ixP f t+1:=rfl;rw[List.nil_append,e,if_pos hc];rfl|x::p,h=>by have e:∀r,ixP f (x::r)=if f x=true then 0 else if ixP f r=-1 then-1 else ixP f r+1:=λ_=>rfl;have ih:=Kx (t:=t) hc (p:=p) λy hy=>h y (by simp[hy]);rw[List.cons_append,e,h x (by simp),if_neg (by decide),ih,if_neg (by omega)];simp
theorem xV{c:UInt8}:List.contains [123,125,44] c=fD c:=by simp only[List.contains_cons,List.contains_nil,Bool.or_false,fD];cases c==123<;>cases c==125<;>rfl
theorem wX{p:List UInt8}:strs [p]=[.str p]:=rfl
theorem sQ{l:List (List UInt8)}{p:List UInt8}:(bJ l [p]).length=l.length:=by rw[dJ];simp
theorem Ur{s:List UInt8}(hs:s.length<=900000){at_:Nat}{p r:List UInt8}(hd:s.drop at_=p++r)(hp:∀c∈p,fD c=false)(hp0:p≠[])(hr:r=[]\/∃c t,r=c::t/\fD c=true){b:Bool}{l:List (List UInt8)}(hl:l.length<=512)(hx:∀x∈l,x.length<=at_){env:Env}{H:Heap}{Q:Out->Prop}(hN:kW env H (stV b l) (stH b s at_ l))(cont:∀env H,kW env H (stV false (bJ l [p])) (stH false s ((at_:Int)+p.length) (bJ l [p]))->Wp Γ am env H (aW [3] 0 Q)):Wp Γ am env H (aW [3] 0 Q):=by
 have hlen:at_+p.length<=s.length/\0<p.length:=by have e:=congrArg List.length hd;rw[List.length_drop,List.length_append]at e;cases p with|nil=>exact absurd rfl hp0|cons c p=>rw[List.length_cons]at*;omega
 have hlt:at_<s.length:=by omega
 have hdl:(s.drop at_).length=s.length-at_:=List.length_drop;have eix:=Et (s.drop at_) [123,125,44] (by omega) (by decide) (by decide) (by decide);have hsp:fD (s.getD at_ 0)=false:=by cases p with|nil=>exact absurd rfl hp0|cons c p=>obtain⟨_,h2,_⟩:=fj hd;rw[h2];exact hp c (by simp)
 simp only[fD,Bool.or_eq_false_iff,beq_eq_false_iff_ne]at hsp;have n1:byt s at_≠123:=λh=>hsp.1.1 ((aR 123).1 h);have n2:byt s at_≠125:=λh=>hsp.1.2 ((aR 125).1 h);have n3:byt s at_≠44:=λh=>hsp.2 ((aR 44).1 h);have cut:(s.take (at_+p.length)).drop at_=p:=by rw[List.drop_take,hd,Nat.add_sub_cancel_left,List.take_left]
 have ecut:((at_:Int)+(p.length:Int)).toNat=at_+p.length:=by omega
 have hx1:∀x∈l,x.length<=1000000:=λx h=>by have :=hx x h;omega
 have hy1:∀y∈[p],y.length<=1000000:=λy h=>by rw[List.mem_singleton]at h;subst h;omega
 have pl:=@sQ l p;have eP:=λka=>Ej (kA:=ka) (kB:=.tight) s (at_:Int) l [p] hl (by simp) (by simpa using hl) hx1 hy1;have eO:=λfa=>DG (fA:=fa) (kB:=.tight) s (at_:Int) l [p] hl (by simp) (by simpa using hl) hx1 hy1;rw[wX]at eP eO;have st1:ir Γ 1 51=true:=rfl;have st2:ir Γ 2 51=true:=rfl;have hcase:(ixP (List.contains [123,125,44]) (s.drop at_)=-1/\at_+p.length=s.length)\/ixP (List.contains [123,125,44]) (s.drop at_)=(p.length:Int):=by
  rw[hd];rcases hr with rfl|⟨c,t,rfl,hc⟩
  ·refine .inl ⟨?_,?_⟩;·rw[List.append_nil];exact EP λc h=>by rw[xV];exact hp c h
   ·have e:=congrArg List.length hd;rw[List.length_drop,List.append_nil]at e;omega
  ·exact .inr (Kx (by rw[xV];exact hc) λc h=>by rw[xV];exact hp c h)
 rcases hcase with⟨h1,h2⟩|h1
 ·rw[h1]at eix;have esub:(s.length:Int)-(at_:Int)=(p.length:Int):=by omega
  cases b;·unfold stV stH at*;rw[aa (L:=am) rfl];rw[hN];simp(disch:=first|exact Dq|fail)only[go_sem,eix,esub,ecut,cut,eO,st2,pl];refine cont _ _ ?_;simp(disch:=first|exact Dq|fail)only[go_sem,pl,kW]
  ·unfold stV stH at*;rw[aa (L:=am) rfl];rw[hN];simp(disch:=first|exact Dq|fail)only[go_sem,eix,esub,ecut,cut,eP,st1,pl];refine cont _ _ ?_;simp(disch:=first|exact Dq|fail)only[go_sem,pl,kW]
 ·rw[h1]at eix;cases b;·unfold stV stH at*;rw[aa (L:=am) rfl];rw[hN];simp(disch:=first|exact Dq|fail)only[go_sem,eix,ecut,cut,eO,st2,pl];refine cont _ _ ?_;simp(disch:=first|exact Dq|fail)only[go_sem,pl,kW]
  ·unfold stV stH at*;rw[aa (L:=am) rfl];rw[hN];simp(disch:=first|exact Dq|fail)only[go_sem,eix,ecut,cut,eP,st1,pl];refine cont _ _ ?_;simp(disch:=first|exact Dq|fail)only[go_sem,pl,kW]
theorem PW{s:List UInt8}(_hs:s.length<=900000){at_:Nat}{w:List UInt8}(hd:s.drop at_=123::w){b:Bool}{l:List (List UInt8)}(hl:l.length<=512)(hx:∀x∈l,x.length<=1000000){env:Env}{H:Heap}{Q:Out->Prop}(hN:kW env H (stV b l) (stH b s at_ l)){at2:Int}{ov:Bool}{c:List (List UInt8)}(hc:c.length<=2000)(hch:resM Γ 1 50 [.bx 0 0] [rdB s at_ false]=some ([.own 1 c.length],[rdB s at2 ov,.row false 1 (strs c)]))(hok:ov=false->l.length*c.length<=512->(∀y∈c,y.length<=1000000)/\∀env H,kW env H (stV false (bJ l c)) (stH false s at2 (bJ l c))->Wp Γ am env H (aW [3] 0 Q))(hov:ov=true\/512<l.length*c.length->Q (.nrm,[(3,.p (.sl .nil 1 []))],[rdB s at2 true])):Wp Γ am env H (aW [3] 0 Q):=by
 obtain⟨hlt,h2,_⟩:=fj hd;have hb:byt s at_=123:=(aR 123).2 h2;have st1:ir Γ 1 50=true:=rfl;have st2:ir Γ 2 51=true:=rfl;have st3:ir Γ 3 51=true:=rfl;by_cases h:ov=true\/512<l.length*c.length
 ·have hov:=hov h;have eP:=λka fb=>AZ (kA:=ka) (fB:=fb) s at2 l c hl hc h;have eO:=λfa fb=>AD (fA:=fa) (fB:=fb) s at2 l c hl hc h;cases b
  ·unfold stV stH at*;rw[aa (L:=am) rfl];rw[hN];simp(disch:=first|exact Dq|fail)only[go_sem,hb,hch,st1,eO,st3];rw[aa (L:=am) rfl];simp(disch:=first|exact Dq|fail)only[go_sem];repeat'(first|(simp(disch:=first|exact Dq|fail)only[go_sem])|refine aP (λhc=>?_) (λhc=>?_)|refine cM (λhc=>?_) (λhc=>?_)|refine cK (λhc=>?_) (λhc=>?_))
   all_goals exact hov
  ·unfold stV stH at*;rw[aa (L:=am) rfl];rw[hN];simp(disch:=first|exact Dq|fail)only[go_sem,hb,hch,st1,eP,st2];rw[aa (L:=am) rfl];simp(disch:=first|exact Dq|fail)only[go_sem];repeat'(first|(simp(disch:=first|exact Dq|fail)only[go_sem])|refine aP (λhc=>?_) (λhc=>?_)|refine cM (λhc=>?_) (λhc=>?_)|refine cK (λhc=>?_) (λhc=>?_))
   all_goals exact hov
 ·have h1:ov=false:=by cases ov;rfl;exact absurd (.inl rfl) h
  have h2:l.length*c.length<=512:=Nat.le_of_not_lt λh'=>h (.inr h');subst h1;obtain⟨hy,cont⟩:=hok rfl h2;have eP:=λka fb=>Dt (kA:=ka) (fB:=fb) s at2 l c hl hc h2 hx hy;have eO:=λfa fb=>Cu (fA:=fa) (fB:=fb) s at2 l c hl hc h2 hx hy;cases b;·unfold stV stH at*;rw[aa (L:=am) rfl];rw[hN];simp(disch:=first|exact Dq|fail)only[go_sem,hb,hch,st1,eO,st3];refine cont _ _ ?_;simp(disch:=first|exact Dq|fail)only[go_sem,kW]
  ·unfold stV stH at*;rw[aa (L:=am) rfl];rw[hN];simp(disch:=first|exact Dq|fail)only[go_sem,hb,hch,st1,eP,st2];refine cont _ _ ?_;simp(disch:=first|exact Dq|fail)only[go_sem,kW]
def KF(a:List UInt8)(out:List (List UInt8)):Prop:=∀(s:List UInt8)(at_:Nat)(rest:List UInt8),s.length<=900000->at_<=s.length->s.drop at_=a++rest->Stop rest->(out.length<=512->resM Γ 1 37 [.bx 0 0] [rdB s at_ false]=some ([stV a.isEmpty out],stH a.isEmpty s ((at_+a.length:Nat):Int) out))/\(512<out.length->∃at2:Nat,at2<=s.length+a.length/\resM Γ 1 37 [.bx 0 0] [rdB s at_ false]=some ([.p (.sl .nil 1 [])],[rdB s at2 true]))
theorem zF(f:List UInt8->List (List UInt8)){s:List UInt8}(hs:s.length<=900000){rest:List UInt8}{Q:Out->Prop}:∀(alts:List (List UInt8)),alts≠[]->(∀a∈alts,KF a (f a))->∀(at_:Nat)(x:UInt8)(D:List (List UInt8))(env:Env)(H:Heap),x≠125->s.drop at_=x::(bv alts++125::rest)->D.length<=512->kW env H (stV false D) (stH false s at_ D)->((D++alts.flatMap f).length<=512->Q (.nrm,[(0,.bx 0 0),(3,stV false (D++alts.flatMap f))],stH false s ((at_+1+(bv alts).length:Nat):Int) (D++alts.flatMap f)))->(512<(D++alts.flatMap f).length->∀(at2:Nat)(xs:List (List UInt8)),at2<=s.length+(bv alts).length->xs.length<=2000->Q (.nrm,[(0,.bx 0 0),(3,.own 1 xs.length)],[rdB s at2 true,.row false 1 (strs xs)]))->Wp Γ aL env H (aW [0,3] 0 Q):=by intro alts;induction alts with|nil=>exactλh=>absurd rfl h|cons a asX ih=>
  intro _ hR at_ x D env H hx hd hD hN hok hov;obtain⟨hlt,hx2,hd2⟩:=fj hd;have nx:byt s at_≠125:=λh=>hx (hx2▸(aR 125).1 h);obtain⟨rest1,hr1,hst⟩:∃rest1,bv (a::asX)++125::rest=a++rest1/\((asX=[]/\rest1=125::rest/\bv (a::asX)=a)\/(asX≠[]/\rest1=44::(bv asX++125::rest)/\bv (a::asX)=a++44::bv asX)):=by
   by_cases h:asX=[];·subst h;exact⟨125::rest,rfl,.inl ⟨rfl,rfl,rfl⟩⟩
   ·rw[jt h];exact⟨44::(bv asX++125::rest),by rw[List.append_assoc];rfl,.inr ⟨h,rfl,rfl⟩⟩
  have hlen1:at_+1+a.length<=s.length:=by have e:=congrArg List.length hd2;rw[hr1,List.length_drop,List.length_append]at e;omega
  have hstop:Stop rest1:=by
   rcases hst with⟨_,h,_⟩|⟨_,h,_⟩;·exact .inr ⟨125,_,h,.inr rfl⟩
   ·exact .inr ⟨44,_,h,.inl rfl⟩
  rw[hr1]at hd2;obtain⟨R1,R2⟩:=hR a (by simp) s (at_+1) rest1 hs (by omega) hd2 hstop;have hd3:s.drop (at_+1+a.length)=rest1:=by rw[<-List.drop_drop,hd2,List.drop_left]
  have st1:ir Γ 1 37=true:=rfl;have efm:(a::asX).flatMap f=f a++asX.flatMap f:=List.flatMap_cons;rw[efm]at hok hov;by_cases hfa:(f a).length<=512
  ·have R:=R1 hfa;have ec1:((at_+1:Nat):Int)=(at_:Int)+1:=rfl;rw[ec1]at R;have next:∀env H,kW env H (stV false (D++f a)) (stH false s ((at_+1+a.length:Nat):Int) (D++f a))->(D++f a).length<=512->Wp Γ aL env H (aW [0,3] 0 Q):=by
    intro env H hN2 hl2;rcases hst with⟨h1,h2,h3⟩|⟨h1,h2,h3⟩;·subst h1;rw[h2]at hd3;obtain⟨k1,k2,_⟩:=fj hd3;have e125:byt s (at_+1+a.length)=125:=(aR 125).2 k2;rw[List.flatMap_nil,List.append_nil,h3]at hok;have hok:=hok hl2;unfold stV stH at*;rw[aa (L:=aL) rfl];rw[hN2];simp(disch:=first|exact Dq|fail)only[go_sem,e125,ne_eq,not_true_eq_false];exact hok
    ·rw[h2]at hd3;have ht:at_+1+a.length+1+(bv asX).length=at_+1+(bv (a::asX)).length:=by rw[h3,List.length_append,List.length_cons];omega
     refine ih h1 (λy hy=>hR y (by simp[hy])) (at_+1+a.length) 44 (D++f a) env H (by decide) hd3 hl2 hN2 (λh=>?_) (λh=>?_);·rw[ht];rw[List.append_assoc]at h⊢;exact hok h
     ·rw[List.append_assoc]at h;exactλat2 xs ha=>hov h at2 xs (by rw[h3,List.length_append,List.length_cons];omega)
   by_cases hl2:(D++f a).length<=512
   ·have hl3:D.length+(f a).length<=512:=by rw[List.length_append]at hl2;exact hl2
    have nx2:=λenv H h=>next env H h hl2;have edec:decide (512<((D.length+(f a).length:Nat):Int))=false:=decide_eq_false (by omega);unfold stV stH at hN R nx2;cases hb:a.isEmpty;·rw[hb]at R;rw[aa (L:=aL) rfl];rw[hN];simp(disch:=first|exact Dq|fail)only[go_sem,R,st1,edec];refine nx2 _ _ ?_;simp(disch:=first|exact Dq|fail)only[go_sem,kW,List.length_append]
    ·rw[hb]at R;rw[aa (L:=aL) rfl];rw[hN];simp(disch:=first|exact Dq|fail)only[go_sem,R,st1,edec];refine nx2 _ _ ?_;simp(disch:=first|exact Dq|fail)only[go_sem,kW,List.length_append]
   ·have hl3:¬D.length+(f a).length<=512:=by rw[List.length_append]at hl2;exact hl2
    have hov:=hov (by simp only[List.length_append]at hl2⊢;omega) (at_+1+a.length) (D++f a) (by omega) (by rw[List.length_append];omega);rw[List.length_append]at hov;have edec:decide (512<((D.length+(f a).length:Nat):Int))=true:=decide_eq_true (by omega);unfold stV stH at hN R;cases hb:a.isEmpty
    ·rw[hb]at R;rw[aa (L:=aL) rfl];rw[hN];simp(disch:=first|exact Dq|fail)only[go_sem,R,st1,edec];rw[aa (L:=aL) rfl];simp(disch:=first|exact Dq|fail)only[go_sem];repeat'(first|(simp(disch:=first|exact Dq|fail)only[go_sem])|refine aP (λhc=>?_) (λhc=>?_)|refine cM (λhc=>?_) (λhc=>?_)|refine cK (λhc=>?_) (λhc=>?_))
     all_goals exact hov
    ·rw[hb]at R;rw[aa (L:=aL) rfl];rw[hN];simp(disch:=first|exact Dq|fail)only[go_sem,R,st1,edec];rw[aa (L:=aL) rfl];simp(disch:=first|exact Dq|fail)only[go_sem];repeat'(first|(simp(disch:=first|exact Dq|fail)only[go_sem])|refine aP (λhc=>?_) (λhc=>?_)|refine cM (λhc=>?_) (λhc=>?_)|refine cK (λhc=>?_) (λhc=>?_))
     all_goals exact hov
  ·obtain⟨at2,hat2,R⟩:=R2 (by omega);have ec1:((at_+1:Nat):Int)=(at_:Int)+1:=rfl;rw[ec1]at R;have hja:=nY (alts:=a::asX) (a:=a) (by simp);have hov:=hov (by simp only[List.length_append];omega) at2 D (by omega) (by omega);have hja2:a.length<=s.length:=by have e:=congrArg List.length hd2;rw[List.length_drop,List.length_append]at e;omega
   unfold stV stH at hN;rw[aa (L:=aL) rfl];rw[hN];simp(disch:=first|exact Dq|fail)only[go_sem,R,st1];rw[aa (L:=aL) rfl];simp(disch:=first|exact Dq|fail)only[go_sem];repeat'(first|(simp(disch:=first|exact Dq|fail)only[go_sem])|refine aP (λhc=>?_) (λhc=>?_)|refine cM (λhc=>?_) (λhc=>?_)|refine cK (λhc=>?_) (λhc=>?_))
   all_goals exact hov
theorem OW(f:List UInt8->List (List UInt8)){s:List UInt8}(hs:s.length<=900000){rest:List UInt8}{alts:List (List UInt8)}(ha:alts≠[])(hR:∀a∈alts,KF a (f a)){at_:Nat}(hd:s.drop at_=123::(bv alts++125::rest)):((alts.flatMap f).length<=512->resM Γ 1 50 [.bx 0 0] [rdB s at_ false]=some ([.own 1 (alts.flatMap f).length],[rdB s ((at_+1+(bv alts).length:Nat)+1:Int) false,.row false 1 (strs (alts.flatMap f))]))/\(512<(alts.flatMap f).length->∃(at2:Nat)(xs:List (List UInt8)),at2<=s.length+(bv alts).length+1/\xs.length<=2000/\resM Γ 1 50 [.bx 0 0] [rdB s at_ false]=some ([.own 1 xs.length],[rdB s at2 true,.row false 1 (strs xs)])):=by
 have hlen:at_+1+(bv alts).length<s.length:=by have e:=congrArg List.length hd;rw[List.length_drop,List.length_cons,List.length_append,List.length_cons]at e;omega
 constructor
 ·intro h;refine eK (fn:=cY) rfl rfl ?_;simp(disch:=first|exact Dq|fail)only[go_sem,cY];refine zF f hs alts ha hR at_ 123 [] _ _ (by decide) hd (by simp) ?_ (λ_=>?_) (λh'=>?_);·unfold stV stH;simp(disch:=first|exact Dq|fail)only[go_sem,kW];rfl
  ·unfold stV stH;rw[List.nil_append];simp(disch:=first|exact Dq|fail)only[go_sem]
  ·rw[List.nil_append]at h';omega
 ·intro h;by_cases hx:∃(at2:Nat)(xs:List (List UInt8)),at2<=s.length+(bv alts).length+1/\xs.length<=2000/\resM Γ 1 50 [.bx 0 0] [rdB s at_ false]=some ([.own 1 xs.length],[rdB s at2 true,.row false 1 (strs xs)]);·exact hx
  ·exfalso;have key:=callK (Γ:=Γ) (f:=50) (fn:=cY) (args:=[.bx 0 0]) (HL:=[rdB s at_ false]) (K:=λvs h=>∃(at2:Nat)(xs:List (List UInt8)),at2<=s.length+(bv alts).length+1/\xs.length<=2000/\tidy 1 (vs,h)=some ([.own 1 xs.length],[rdB s at2 true,.row false 1 (strs xs)])) rfl rfl (by
    simp(disch:=first|exact Dq|fail)only[go_sem,cY];refine zF f hs alts ha hR at_ 123 [] _ _ (by decide) hd (by simp) ?_ (λh'=>?_) (λ_ at2 xs ha2 hxs=>?_);·unfold stV stH;simp(disch:=first|exact Dq|fail)only[go_sem,kW];rfl
    ·rw[List.nil_append]at h';omega
    ·simp(disch:=first|exact Dq|fail)only[go_sem];refine⟨at2+1,xs,by omega,hxs,?_⟩;rfl);obtain⟨n,vs,h2,h3,at2,xs,h4,h6,h5⟩:=key;exact hx ⟨at2,xs,h4,h6,wK ⟨n,(vs,h2),h3,h5⟩⟩
def Re(u:List UInt8)(out:List (List UInt8)):Prop:=∀(s:List UInt8)(at_:Nat)(rest:List UInt8)(l:List (List UInt8))(b:Bool)(env:Env)(H:Heap)(Q:Out->Prop),s.length<=900000->at_<=s.length->s.drop at_=u++rest->Stop rest->kW env H (stV b l) (stH b s at_ l)->0<l.length->l.length<=512->(∀x∈l,x.length<=at_)->(l.length*out.length<=512->Q (.ret,[(2,stV (b&&u.isEmpty) (bJ l out))],stH (b&&u.isEmpty) s ((at_+u.length:Nat):Int) (bJ l out))/\Q (.nrm,[(3,stV (b&&u.isEmpty) (bJ l out))],stH (b&&u.isEmpty) s ((at_+u.length:Nat):Int) (bJ l out)))->(512<l.length*out.length->∀at2:Nat,at2<=s.length+u.length->Q (.nrm,[(3,.p (.sl .nil 1 []))],[rdB s at2 true]))->Wp Γ am env H (aW [3] 0 Q)
theorem Fs{r:List UInt8}(h:Stop r):r=[]\/∃c t,r=c::t/\fD c=true:=by
 rcases h with h|⟨c,t,h,hc⟩;·exact .inl h
 ·refine .inr ⟨c,t,h,?_⟩;rcases hc with rfl|rfl<;>rfl
theorem Hh{u:List UInt8}{out:List (List UInt8)}(h:Re u out):KF u out:=by
 intro s at_ rest hs ha hd hst;have hN:kW [(0,.bx 0 0),(3,.p (.sl .tight 1 [.str []]))] [rdB s at_ false] (stV true [[]]) (stH true s at_ [[]]):=by unfold stV stH;simp(disch:=first|exact Dq|fail)only[go_sem,kW];rfl
 have hN':∀x y:AV,kW [(3,.p (.sl .tight 1 [.str []])),(6,x),(0,.bx 0 0),(2,y)] [rdB s at_ false] (stV true [[]]) (stH true s at_ [[]]):=λx y=>by unfold stV stH;simp(disch:=first|exact Dq|fail)only[go_sem,kW];rfl
 have e1:∀n,([[]]:List (List UInt8)).length*n=n:=λn=>Nat.one_mul n;constructor
 ·intro ho;refine eK (fn:=fi) rfl rfl ?_;simp(disch:=first|exact Dq|fail)only[go_sem,fi];refine h s at_ rest [[]] true _ _ _ hs ha hd hst hN (by simp) (by simp) (by simp) (λ_=>?_) (λh'=>?_)
  ·rw[AQ,Bool.true_and];cases u.isEmpty;·unfold stV stH;constructor<;>simp(disch:=first|exact Dq|fail)only[go_sem]
   ·unfold stV stH;constructor<;>simp(disch:=first|exact Dq|fail)only[go_sem]
  ·rw[e1]at h';omega
 ·intro ho;have key:=callK (Γ:=Γ) (f:=37) (fn:=fi) (args:=[.bx 0 0]) (HL:=[rdB s at_ false]) (K:=λvs h=>∃at2:Nat,at2<=s.length+u.length/\tidy 1 (vs,h)=some ([.p (.sl .nil 1 [])],[rdB s at2 true])) rfl rfl (by
   simp(disch:=first|exact Dq|fail)only[go_sem,fi];refine h s at_ rest [[]] true _ _ _ hs ha hd hst hN (by simp) (by simp) (by simp) (λh'=>?_) (λ_ at2 h2=>?_);·rw[e1]at h';omega
   ·simp(disch:=first|exact Dq|fail)only[go_sem];exact⟨at2,h2,rfl⟩);obtain⟨n,vs,h2,h3,at2,h4,h5⟩:=key;exact⟨at2,h4,wK ⟨n,(vs,h2),h3,h5⟩⟩
theorem Qg{a b:List (List UInt8)}(ha:0<a.length)(hb:0<b.length):0<(bJ a b).length:=by rw[dJ];exact Nat.mul_pos ha hb
theorem KZ{a b:List (List UInt8)}{n m:Nat}(ha:∀x∈a,x.length<=n)(hb:∀x∈b,x.length<=m):∀x∈bJ a b,x.length<=n+m:=by intro x hx;obtain⟨y,z,hy,hz,rfl⟩:=wV hx;have :=ha y hy;have :=hb z hz;rw[List.length_append];omega
theorem row_main{u:List UInt8}{out:List (List UInt8)}(h:Exp u out):Re u out:=by induction h with|run p hp=>
  intro s at_ rest l b env H Q hs ha hd hst hN l0 l512 hx fin ovr;by_cases h0:p=[];·subst h0;rw[oQ]at fin;have fin:=fin (by simpa using l512);rw[show(b&&([]:List UInt8).isEmpty)=b by simp]at fin;exact PN (by omega) ha hN (by rw[hd];exact hst) fin
  ·have fin:=fin (by simpa using l512);have hb:(b&&p.isEmpty)=false:=by cases p with|nil=>exact absurd rfl h0|cons c p=>simp
   rw[hb]at fin;have hl:at_+p.length<=s.length:=by have e:=congrArg List.length hd;rw[List.length_drop,List.length_append]at e;omega
   refine Ur hs hd hp h0 (Fs hst) l512 hx hN λenv H hN2=>?_;exact PN (by omega) hl hN2 (by rw[<-List.drop_drop,hd,List.drop_left];exact hst) fin|grp p alts f u l0 hp ha0 hf hu ih ihu=>
  intro s at_ rest l b env H Q hs ha hd hst hN lp l512 hx fin ovr;have hR:∀a∈alts,KF a (f a):=λa h=>Hh (ih a h);have hu0:=CL hu;have hul:=xY hu;have hne:(b&&(p++123::(bv alts++125::u)).isEmpty)=false:=by cases p<;>simp
  rw[hne]at fin;have hdl:=congrArg List.length hd;rw[List.length_drop]at hdl;simp only[List.length_append,List.length_cons]at hdl;have hCl:∀y∈alts.flatMap f,y.length<=(bv alts).length:=λy hy=>by obtain⟨a,h1,h2⟩:=List.mem_flatMap.1 hy;have :=xY (hf a h1) y h2;have :=nY h1;omega
  have hC0:0<(alts.flatMap f).length:=by cases alts with|nil=>exact absurd rfl ha0|cons a asX=>rw[List.flatMap_cons,List.length_append];have :=CL (hf a (by simp));omega
  have eout:∀l:List (List UInt8),bJ l (bJ [p] (bJ (alts.flatMap f) l0))=bJ (bJ (bJ l [p]) (alts.flatMap f)) l0:=λl=>by rw[zq,zq]
  rw[eout]at fin;have olen:(bJ [p] (bJ (alts.flatMap f) l0)).length=(alts.flatMap f).length*l0.length:=by rw[dJ,dJ];simp
  rw[olen]at fin ovr;have hul2:(p++123::(bv alts++125::u)).length=p.length+((bv alts).length+(u.length+1)+1):=by simp only[List.length_append,List.length_cons]
  rw[hul2]at fin ovr;have G:∀(b1:Bool)(env:Env)(H:Heap),(∀x∈bJ l [p],x.length<=at_+p.length)->kW env H (stV b1 (bJ l [p])) (stH b1 s ((at_+p.length:Nat):Int) (bJ l [p]))->Wp Γ am env H (aW [3] 0 Q):=by
   intro b1 env H hx1 hN1;have pl:=@sQ l p;have hd1:s.drop (at_+p.length)=123::(bv alts++125::(u++rest)):=by rw[<-List.drop_drop,hd,List.append_assoc,List.drop_left];simp
   obtain⟨C1,C2⟩:=OW f hs ha0 hR hd1;by_cases hC:(alts.flatMap f).length<=512
   ·refine PW hs hd1 (by omega) (λx h=>by have :=hx1 x h;omega) hN1 (by omega) (C1 hC) (λ_ h2=>⟨λy hy=>by have :=hCl y hy;omega,λenv H hN2=>?_⟩) (λh=>?_)
    ·rw[pl]at h2;have hat:at_+p.length+1+(bv alts).length+1<=s.length:=by omega
     refine ihu s (at_+p.length+1+(bv alts).length+1) rest (bJ (bJ l [p]) (alts.flatMap f)) false env H Q hs hat ?_ hst hN2 (Qg (by omega) hC0) (by rw[dJ,pl];exact h2) ?_ (λh3=>?_) (λh3 at2 h4=>?_)
     ·have e:at_+p.length+1+(bv alts).length+1=(at_+p.length)+((bv alts).length+2):=by omega
      rw[e,<-List.drop_drop,hd1,show(bv alts).length+2=(bv alts).length+1+1 from rfl,List.drop_succ_cons];rw[List.drop_append,List.drop_eq_nil_of_le (by omega),List.nil_append,Nat.add_sub_cancel_left];rfl
     ·intro x h;have :=KZ hx1 hCl x h;omega
     ·rw[dJ,pl,Nat.mul_assoc]at h3;have fin:=fin h3;have e:at_+(p.length+((bv alts).length+(u.length+1)+1))=at_+p.length+1+(bv alts).length+1+u.length:=by omega
      rw[e]at fin;exact fin
     ·rw[dJ,pl,Nat.mul_assoc]at h3;exact ovr h3 at2 (by omega)
    ·rcases h with h|h;·cases h
     ·rw[pl]at h;have h2:l.length*(alts.flatMap f).length<=l.length*((alts.flatMap f).length*l0.length):=Nat.mul_le_mul_left _ (Nat.le_mul_of_pos_right _ hu0);exact ovr (by omega) (at_+p.length+1+(bv alts).length+1) (by omega)
   ·obtain⟨at2,xs,k1,k2,k3⟩:=C2 (by omega);refine PW hs hd1 (by omega) (λx h=>by have :=hx1 x h;omega) hN1 k2 k3 (λh=>by cases h) (λ_=>?_);have h2:(alts.flatMap f).length<=(alts.flatMap f).length*l0.length:=Nat.le_mul_of_pos_right _ hu0;have h3:(alts.flatMap f).length*l0.length<=l.length*((alts.flatMap f).length*l0.length):=Nat.le_mul_of_pos_left _ lp;exact ovr (by omega) at2 (by omega)
  by_cases h0:p=[];·subst h0;have e:bJ l [[]]=l:=oQ l;rw[e]at G;exact G b env H hx hN
  ·refine Ur hs (r:=123::(bv alts++125::(u++rest))) (by rw[hd,List.append_assoc];simp) hp h0 (.inr ⟨123,_,rfl,rfl⟩) l512 hx hN λenv H hN2=>?_;exact G false env H (KZ hx λx h=>by rw[List.mem_singleton]at h;subst h;exact Nat.le_refl _) hN2
def okE(p:List UInt8):Bool:=decide (p≠[])&&(splitB 46 p).all λq=>(cX q).isSome
theorem Tl{k1:SK}(v:AV)(a b:Int)(row:AV)(B:Heap)(l:List (List UInt8))(hl:l.length<=900000001)(hm:∀p∈l,p.length<900000000)(Q:Out->Prop):∀(n i:Nat),i+n=l.length->((l.drop i).all (λq=>(cX q).isSome)=false->Q (.ret,[(2,.p (.sl .nil 1 [])),(3,.p (.int .i64 8))],B))->((l.drop i).all (λq=>(cX q).isSome)=true->Q (.nrm,[(5,v),(29,row),(30,.p (.int .i64 a)),(31,.p (.int .i64 b))],B))->Wp Γ gR [(5,v),(29,row),(30,.p (.int .i64 a)),(31,.p (.int .i64 b)),(38,.p (.sl k1 1 (strs l))),(39,.p (.int .i64 (l.length:Int))),(40,.p (.int .i64 (i:Int)))] B (aW [5,29,30,31] 2 Q):=by intro n;induction n with
 |zero=>
  intro i hi h1 h2;obtain rfl:i=l.length:=by omega
  rw[aa (L:=gR) rfl];simp(disch:=first|exact Dq|fail)only[go_sem];exact h2 (by rw[List.drop_length];rfl)|succ n ih=>
  intro i hi h1 h2;have hlt:i<l.length:=by omega
  have hp:=hm _ (getD_mem hlt);rw[pq [] hlt]at h1 h2;cases ht:cX (l.getD i [])with|none=>have e:=nv _ hp ht;rw[ht]at h1;rw[aa (L:=gR) rfl];simp(disch:=first|exact Dq|fail)only[go_sem,e];exact h1 rfl|some t=>have e:=tF _ hp ht;rw[ht]at h1 h2;rw[aa (L:=gR) rfl];simp(disch:=first|exact Dq|fail)only[go_sem,e];exact ih (i+1) (by omega) h1 h2
theorem Uh(fr:Bool)(bx:Blk)(l:List (List UInt8))(hl:l.length<=512)(hm:∀p∈l,p.length<900000000)(Q:Out->Prop):∀(n i:Nat),i+n=l.length->((l.drop i).all okE=false->Q (.ret,[(2,.p (.sl .nil 1 [])),(3,.p (.int .i64 8))],[bx,.row fr 1 (strs l)]))->((l.drop i).all okE=true->Q (.nrm,[(5,.own 1 l.length)],[bx,.row fr 1 (strs l)]))->Wp Γ fQ [(5,.own 1 l.length),(29,.own 1 l.length),(30,.p (.int .i64 (l.length:Int))),(31,.p (.int .i64 (i:Int)))] [bx,.row fr 1 (strs l)] (aW [5] 0 Q):=by intro n;induction n with
 |zero=>
  intro i hi h1 h2;obtain rfl:i=l.length:=by omega
  rw[aa (L:=fQ) rfl];simp(disch:=first|exact Dq|fail)only[go_sem];exact h2 (by rw[List.drop_length];rfl)|succ n ih=>
  intro i hi h1 h2;have hlt:i<l.length:=by omega
  have hp:=hm _ (getD_mem hlt);rw[pq [] hlt]at h1 h2;unfold okE at h1 h2;have hsl:=bz 46 (l.getD i []);have hsc:=@count_le (l.getD i []) 46;by_cases h0:l.getD i []=[];·rw[h0]at h1;rw[aa (L:=fQ) rfl];simp(disch:=first|exact Dq|fail)only[go_sem,h0];exact h1 rfl
  ·rw[decide_eq_true h0,Bool.true_and]at h1 h2;rw[aa (L:=fQ) rfl];simp(disch:=first|exact Dq|fail)only[go_sem];refine Tl (k1:=.any) _ _ _ _ _ (splitB 46 (l.getD i [])) (by omega) (λp hp'=>by have :=bD hp';omega) _ (splitB 46 (l.getD i [])).length 0 (by omega) (λh=>?_) (λh=>?_);·rw[List.drop_zero]at h;simp(disch:=first|exact Dq|fail)only[go_sem];exact h1 (by rw[h];rfl)
   ·rw[List.drop_zero]at h;rw[h,Bool.true_and]at h1 h2;simp(disch:=first|exact Dq|fail)only[go_sem];exact ih (i+1) (by omega) h1 h2
def Ia(_s:List UInt8)(out:List (List UInt8)):List PV:=if 512<out.length then[.sl .nil 1 [],.int .i64 13]else if out.all okE=true then[.sl .any 1 (strs out),.int .i64 0]else[.sl .nil 1 [],.int .i64 8]
theorem uq(s:List UInt8)(hs:s.length<900000000)(h:4096<s.length\/scan 0 s=false):res Γ 16 [.str s]=some [.sl .nil 1 [],.int .i64 8]:=by
 have e:=uE s hs;refine ae (fn:=dD) rfl rfl ?_;by_cases hl:4096<s.length;·simp(disch:=first|exact Dq|fail)only[go_sem,dD]
 ·have h:=h.resolve_left hl;rw[h]at e;simp(disch:=first|exact Dq|fail)only[go_sem,dD,e]
theorem AY(s:List UInt8)(hs:s.length<=4096){out:List (List UInt8)}(h:Exp s out):res Γ 16 [.str s]=some (Ia s out):=by
 have e:=uE s (by omega);rw[za h]at e;obtain⟨R1,R2⟩:=Hh (row_main h) s 0 [] (by omega) (by omega) (by rw[List.append_nil];rfl) (.inl rfl);have st1:ir Γ 1 37=true:=rfl;have hle:=xY h;unfold Ia;by_cases ho:512<out.length;·obtain⟨at2,_,R⟩:=R2 ho;rw[if_pos ho];have R:resM Γ 1 37 [.bx 0 0] [rdB s 0 false]=some ([.p (.sl .nil 1 [])],[rdB s at2 true]):=R;refine ae (fn:=dD) rfl rfl ?_;simp(disch:=first|exact Dq|fail)only[go_sem,dD,e,R,st1]
 ·rw[if_neg ho];have R:=R1 (by omega);have R:resM Γ 1 37 [.bx 0 0] [rdB s 0 false]=some ([stV s.isEmpty out],stH s.isEmpty s ((0+s.length:Nat):Int) out):=R;generalize((0+s.length:Nat):Int)=at2 at R;cases hse:s.isEmpty
  ·rw[hse]at R;unfold stV stH at R;refine ae (fn:=dD) rfl rfl ?_;simp(disch:=first|exact Dq|fail)only[go_sem,dD,e,R,st1];refine Uh false _ out (by omega) (λp hp=>by have :=hle p hp;omega) _ out.length 0 (by omega) (λh=>?_) (λh=>?_);·rw[List.drop_zero]at h;rw[if_neg (by rw[h];decide)];simp(disch:=first|exact Dq|fail)only[go_sem]
   ·rw[List.drop_zero]at h;rw[if_pos h];simp(disch:=first|exact Dq|fail)only[go_sem]
  ·rw[hse]at R;have :s=[]:=by simpa using hse
   subst this;have :out=[[]]:=by generalize hz:([]:List UInt8)=z at h;cases h with|run p hp=>rw[<-hz]|grp p alts f u l hp ha hf hu=>cases p<;>cases hz
   subst this;unfold stV stH at R;rw[if_neg (by decide)];refine ae (fn:=dD) rfl rfl ?_;simp(disch:=first|exact Dq|fail)only[go_sem,dD,e,R,st1];rw[aa (L:=fQ) rfl];simp(disch:=first|exact Dq|fail)only[go_sem,wX,sW,PV.cells]
end Ab
