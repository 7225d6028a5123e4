import Derived.Test.YtbehhmffelnmfaaGreatDoorLMd
import Derived.Test.YtbehhmffelnmfaaGreatDoorPGlob
import Derived.Test.YtbehhmffelnmfaaGreatDoorAbW2
import Derived.KernelRfl
set_option linter.all false
namespace Ab
open Go (IntKind)
set_option maxRecDepth 4000 in
def len8:List UInt8:=[0,1,2,2,3,3,3,3,4,4,4,4,4,4,4,4,5,5,5,5,5,5,5,5,5,5,5,5,5,5,5,5,6,6,6,6,6,6,6,6,6,6,6,6,6,6,6,6,6,6,6,6,6,6,6,6,6,6,6,6,6,6,6,6,7,7,7,7,7,7,7,7,7,7,7,7,7,7,7,7,7,7,7,7,7,7,7,7,7,7,7,7,7,7,7,7,7,7,7,7,7,7,7,7,7,7,7,7,7,7,7,7,7,7,7,7,7,7,7,7,7,7,7,7,7,7,7,7,8,8,8,8,8,8,8,8,8,8,8,8,8,8,8,8,8,8,8,8,8,8,8,8,8,8,8,8,8,8,8,8,8,8,8,8,8,8,8,8,8,8,8,8,8,8,8,8,8,8,8,8,8,8,8,8,8,8,8,8,8,8,8,8,8,8,8,8,8,8,8,8,8,8,8,8,8,8,8,8,8,8,8,8,8,8,8,8,8,8,8,8,8,8,8,8,8,8,8,8,8,8,8,8,8,8,8,8,8,8,8,8,8,8,8,8,8,8,8,8,8,8,8,8,8,8,8,8]
def kq:AFn:=⟨1,[.slot 2],.seq (.ops [0,2] [⟨some 2,none,.inl (.mov (.c (.int .i64 0)))⟩]) (.seq (.seq (.ops [0,2,4] [⟨some 3,none,.inl (.mov (.v 0))⟩,⟨some 4,none,.inl (.bin .geq (.v 3) (.c (.int .u64 4294967296)))⟩]) (.cond (.v 4) (.seq (.ops [0] [⟨some 5,none,.inl (.mov (.v 0))⟩,⟨some 6,none,.inl (.bin .shr (.v 5) (.c (.int .u64 32)))⟩,⟨some 0,none,.inl (.mov (.v 6))⟩]) (.ops [0,2] [⟨some 2,none,.inl (.mov (.c (.int .i64 32)))⟩])) (.skip))) (.seq (.seq (.ops [0,2,8] [⟨some 7,none,.inl (.mov (.v 0))⟩,⟨some 8,none,.inl (.bin .geq (.v 7) (.c (.int .u64 65536)))⟩]) (.cond (.v 8) (.seq (.ops [0,2] [⟨some 9,none,.inl (.mov (.v 0))⟩,⟨some 10,none,.inl (.bin .shr (.v 9) (.c (.int .u64 16)))⟩,⟨some 0,none,.inl (.mov (.v 10))⟩]) (.ops [0,2] [⟨some 11,none,.inl (.mov (.v 2))⟩,⟨some 12,none,.inl (.bin .add (.v 11) (.c (.int .i64 16)))⟩,⟨some 2,none,.inl (.mov (.v 12))⟩])) (.skip))) (.seq (.seq (.ops [0,2,14] [⟨some 13,none,.inl (.mov (.v 0))⟩,⟨some 14,none,.inl (.bin .geq (.v 13) (.c (.int .u64 256)))⟩]) (.cond (.v 14) (.seq (.ops [0,2] [⟨some 15,none,.inl (.mov (.v 0))⟩,⟨some 16,none,.inl (.bin .shr (.v 15) (.c (.int .u64 8)))⟩,⟨some 0,none,.inl (.mov (.v 16))⟩]) (.ops [0,2] [⟨some 17,none,.inl (.mov (.v 2))⟩,⟨some 18,none,.inl (.bin .add (.v 17) (.c (.int .i64 8)))⟩,⟨some 2,none,.inl (.mov (.v 18))⟩])) (.skip))) (.seq (.ops [2] [⟨some 19,none,.inl (.mov (.v 2))⟩,⟨some 20,none,.inl (.mov (.v 0))⟩,⟨some 21,none,.inl (.conv .u8 (.v 20))⟩,⟨some 22,none,.inl (.idx (.c (.str len8)) (.v 21))⟩,⟨some 23,none,.inl (.conv .i64 (.v 22))⟩,⟨some 24,none,.inl (.bin .add (.v 19) (.v 23))⟩,⟨some 2,none,.inl (.mov (.v 24))⟩]) (.ret)))))⟩
theorem len8_len:len8.length=256:=by decide+kernel
theorem len8_ok:∀v:Nat,v<256->1<=v->(1<=byt len8 v/\byt len8 v<=8/\2^((byt len8 v).toNat-1)<=v/\v<2^(byt len8 v).toNat):=by decide+kernel
theorem idx8{i:Int}(b:0<=i)(c:i<=255):idxA (.p (.str len8)) (.p (.int .u8 i))=some (.p (.int .u8 (byt len8 i.toNat))):=TX b (by rw[len8_len];omega)
theorem sY(x:Int):cb .shr (.p (.int .u64 x)) (.p (.int .u64 16))=some (.p (.int .u64 (x/65536))):=by rw[ob (by simp) (by simp)];rfl
theorem vY(x:Int):cb .shr (.p (.int .u64 x)) (.p (.int .u64 8))=some (.p (.int .u64 (x/256))):=by rw[ob (by simp) (by simp)];rfl
theorem Uz{y a t:Nat}(e:1<=t)(l:2^(t-1)<=y/2^a)(u:y/2^a<2^t):2^(a+t-1)<=y/\y<2^(a+t):=by
 have p:0<2^a:=Nat.pow_pos (by simp);have c:2^(a+t-1)=2^(t-1)*2^a:=by rw[<-Nat.pow_add];grind
 have b:2^(a+t)=2^t*2^a:=by grind
 rw[c,b];exact⟨(Nat.le_div_iff_mul_le p).1 l,(Nat.div_lt_iff_lt_mul p).1 u⟩
theorem oO{y a:Nat}{r:Option (List PV)}(e:1<=y/2^a)(b:y/2^a<256)(k:a<=56)(h:1<=byt len8 (y/2^a)/\byt len8 (y/2^a)<=8->r=some [.int .i64 (a+byt len8 (y/2^a))]):∃n:Nat,r=some [.int .i64 (n:Int)]/\1<=n/\n<=64/\2^(n-1)<=y/\y<2^n:=by let⟨l,j,d,c⟩:=len8_ok _ b e;let⟨f,g⟩:=Uz (t:=(byt len8 (y/2^a)).toNat) (by omega) d c;refine⟨a+(byt len8 (y/2^a)).toNat,?_,by omega,by omega,f,g⟩;grind
theorem Ub{y:Nat}(h:1<=y/\y<=18446744073709551615):∃n:Nat,res Γ 153 [.int .u64 y]=some [.int .i64 (n:Int)]/\1<=n/\n<=64/\2^(n-1)<=y/\y<2^n:=by
 have c:1<=y/\y<=255\/256<=y/\y<=65535\/65536<=y/\y<=16777215\/16777216<=y/\y<=4294967295\/4294967296<=y/\y<=1099511627775\/1099511627776<=y/\y<=281474976710655\/281474976710656<=y/\y<=72057594037927935\/72057594037927936<=y/\y<=18446744073709551615:=by omega
 rcases c with c|c|c|c|c|c|c|c
 ·refine oO (a:=0) (by omega) (by omega) (by omega) λd=>?_;have b:((y:Int)).toNat=y/2^0:=by omega
  refine ae (fn:=kq) rfl rfl ?_;simp(disch:=first|exact Dq|fail)only[go_sem,kq,idx8,b];simp
 ·refine oO (a:=8) (by omega) (by omega) (by omega) λd=>?_;have b:((y:Int)/256).toNat=y/2^8:=by omega
  refine ae (fn:=kq) rfl rfl ?_;simp(disch:=first|exact Dq|fail)only[go_sem,kq,vY,idx8,b];simp
 ·refine oO (a:=16) (by omega) (by omega) (by omega) λd=>?_;have b:((y:Int)/65536).toNat=y/2^16:=by omega
  refine ae (fn:=kq) rfl rfl ?_;simp(disch:=first|exact Dq|fail)only[go_sem,kq,sY,idx8,b];simp
 ·refine oO (a:=24) (by omega) (by omega) (by omega) λd=>?_;have b:((y:Int)/65536/256).toNat=y/2^24:=by omega
  refine ae (fn:=kq) rfl rfl ?_;simp(disch:=first|exact Dq|fail)only[go_sem,kq,sY,vY,idx8,b];simp
 ·refine oO (a:=32) (by omega) (by omega) (by omega) λd=>?_;have b:((y:Int)/4294967296).toNat=y/2^32:=by omega
  refine ae (fn:=kq) rfl rfl ?_;simp(disch:=first|exact Dq|fail)only[go_sem,kq,kT,idx8,b];simp
 ·refine oO (a:=40) (by omega) (by omega) (by omega) λd=>?_;have b:((y:Int)/4294967296/256).toNat=y/2^40:=by omega
  refine ae (fn:=kq) rfl rfl ?_;simp(disch:=first|exact Dq|fail)only[go_sem,kq,kT,vY,idx8,b];simp
 ·refine oO (a:=48) (by omega) (by omega) (by omega) λd=>?_;have b:((y:Int)/4294967296/65536).toNat=y/2^48:=by omega
  refine ae (fn:=kq) rfl rfl ?_;simp(disch:=first|exact Dq|fail)only[go_sem,kq,kT,sY,idx8,b];simp
 ·refine oO (a:=56) (by omega) (by omega) (by omega) λd=>?_;have b:((y:Int)/4294967296/65536/256).toNat=y/2^56:=by omega
  refine ae (fn:=kq) rfl rfl ?_;simp(disch:=first|exact Dq|fail)only[go_sem,kq,kT,sY,vY,idx8,b];simp
theorem res_LZ{y:Nat}(h:1<=y/\y<=18446744073709551615):∃s:Nat,res Γ 150 [.int .u64 y]=some [.int .i64 (s:Int)]/\s<=63/\9223372036854775808<=y*2^s/\y*2^s<18446744073709551616:=by
 let⟨n,e,f,g,d,c⟩:=Ub h;have b:((64:Int)-(n:Int))=((64-n:Nat):Int):=by omega
 refine⟨64-n,?_,by omega,?_,?_⟩;·refine ae (fn:=dc) rfl rfl ?_;simp(disch:=first|exact Dq|fail)only[go_sem,dc,e,b]
 ·have p:2^(n-1)*2^(64-n)=9223372036854775808:=by rw[<-Nat.pow_add,show n-1+(64-n)=63 by omega]
  rw[<-p];exact Nat.mul_le_mul_right _ d
 ·have p:2^n*2^(64-n)=18446744073709551616:=by rw[<-Nat.pow_add,show n+(64-n)=64 by omega]
  rw[<-p];exact Nat.mul_lt_mul_of_pos_right c (Nat.pow_pos (by simp))
theorem Tv{Y s n1 n0 U u o D:Int}(h:Y=n1*4294967296+n0)(C:2147483648<=n1/\n1<4294967296)(g:0<=n0/\n0<4294967296)(k:0<=U/\U<Y)(j:0<=u/\u<4294967296)(v:0<=D)(m:D*Y<=U*4294967296+u)(d:U*4294967296+u<(D+1)*Y):∀(n:Nat)(q r:Int)(Q:Out->Prop),U=q*n1+r->0<=r->r<4294967296->D<=q->q<=8589934592->4294967296<=r+n*2147483648->Q (.nrm,[(2,.p (.int .u64 Y)),(8,.p (.int .u64 s)),(9,.p (.int .u64 n1)),(10,.p (.int .u64 n0)),(11,.p (.int .u64 U)),(13,.p (.int .u64 u)),(14,.p (.int .u64 o)),(15,.p (.int .u64 D))],[])->Wp Γ iY [(2,.p (.int .u64 Y)),(8,.p (.int .u64 s)),(9,.p (.int .u64 n1)),(10,.p (.int .u64 n0)),(11,.p (.int .u64 U)),(13,.p (.int .u64 u)),(14,.p (.int .u64 o)),(15,.p (.int .u64 q)),(16,.p (.int .u64 r))] [] (aW [2,8,9,10,11,13,14,15] 0 Q):=by
 have a:0<Y:=by omega
 intro n;induction n with|zero=>grind|succ n w=>
  intro q r Q e z A y x E t;have l:U=(q-1)*n1+(r+n1):=by grind
  rw[aa (L:=iY) rfl];by_cases f:4294967296<=q
  ·have i:D<=q-1:=by have :=dig_lt k.2 j.2 m a;omega
   simp(disch:=first|exact Dq|fail)only[go_sem];refine aP (λf=>?_) (λf=>?_);·have :=tg (q:=q-1) (r:=r+n1) h (by omega) g.2 g.1 l (by omega) k.2 j.1 d i (by omega);obtain⟨rfl,_⟩:=this;simp(disch:=first|exact Dq|fail)only[go_sem];grind
   ·simp(disch:=first|exact Dq|fail)only[go_sem];grind
  ·have b:0<=q*n0/\q*n0<=18446744065119617025:=⟨Int.mul_nonneg (by omega) g.1,Int.le_trans (Int.mul_le_mul (show q<=4294967295 by omega) (show n0<=4294967295 by omega) g.1 (by simp)) (by simp)⟩;simp(disch:=first|exact Dq|fail)only[go_sem];refine aP (λf=>?_) (λf=>?_)
   ·have i:=JZ h e (by grind) m a;simp(disch:=first|exact Dq|fail)only[go_sem];refine aP (λf=>?_) (λf=>?_);·have :=tg (q:=q-1) (r:=r+n1) h (by omega) g.2 g.1 l (by omega) k.2 j.1 d i (by omega);obtain⟨rfl,_⟩:=this;simp(disch:=first|exact Dq|fail)only[go_sem];grind
    ·simp(disch:=first|exact Dq|fail)only[go_sem];exact w (q-1) (r+n1) Q l (by omega) (by omega) i (by omega) (by omega) t
   ·have :=Dv h e (by omega) d y a;subst this;simp(disch:=first|exact Dq|fail)only[go_sem];grind
theorem Qn{Y s n1 n0 U u o D:Int}(h:Y=n1*4294967296+n0)(h1:2147483648<=n1/\n1<4294967296)(g:0<=n0/\n0<4294967296)(k:0<=U/\U<Y)(j:0<=u/\u<4294967296)(w:0<=D)(m:D*Y<=U*4294967296+u)(d:U*4294967296+u<(D+1)*Y):∀(n:Nat)(q r:Int)(Q:Out->Prop),U=q*n1+r->0<=r->r<4294967296->D<=q->q<=8589934592->4294967296<=r+n*2147483648->Q (.nrm,[(2,.p (.int .u64 Y)),(8,.p (.int .u64 s)),(14,.p (.int .u64 u)),(15,.p (.int .u64 o)),(17,.p (.int .u64 U)),(18,.p (.int .u64 D))],[])->Wp Γ iE [(2,.p (.int .u64 Y)),(8,.p (.int .u64 s)),(9,.p (.int .u64 n1)),(10,.p (.int .u64 n0)),(14,.p (.int .u64 u)),(15,.p (.int .u64 o)),(16,.p (.int .u64 r)),(17,.p (.int .u64 U)),(18,.p (.int .u64 q))] [] (aW [2,8,14,15,17,18] 2 Q):=by
 have a:0<Y:=by omega
 intro n;induction n with|zero=>grind|succ n t=>
  intro q r Q e r0 A y x hm v;have l:U=(q-1)*n1+(r+n1):=by grind
  rw[aa (L:=iE) rfl];by_cases f:4294967296<=q
  ·have i:D<=q-1:=by have :=dig_lt k.2 j.2 m a;omega
   simp(disch:=first|exact Dq|fail)only[go_sem];refine aP (λf=>?_) (λf=>?_);·have :=tg (q:=q-1) (r:=r+n1) h (by omega) g.2 g.1 l (by omega) k.2 j.1 d i (by omega);obtain⟨rfl,_⟩:=this;simp(disch:=first|exact Dq|fail)only[go_sem];grind
   ·simp(disch:=first|exact Dq|fail)only[go_sem];grind
  ·have b:0<=q*n0/\q*n0<=18446744065119617025:=⟨Int.mul_nonneg (by omega) g.1,Int.le_trans (Int.mul_le_mul (show q<=4294967295 by omega) (show n0<=4294967295 by omega) g.1 (by simp)) (by simp)⟩;simp(disch:=first|exact Dq|fail)only[go_sem];refine aP (λf=>?_) (λf=>?_)
   ·have i:=JZ h e (by grind) m a;simp(disch:=first|exact Dq|fail)only[go_sem];refine aP (λf=>?_) (λf=>?_);·have :=tg (q:=q-1) (r:=r+n1) h (by omega) g.2 g.1 l (by omega) k.2 j.1 d i (by omega);obtain⟨rfl,_⟩:=this;simp(disch:=first|exact Dq|fail)only[go_sem];grind
    ·simp(disch:=first|exact Dq|fail)only[go_sem];exact t (q-1) (r+n1) Q l (by omega) (by omega) i (by omega) (by omega) v
   ·have :=Dv h e (by omega) d y a;subst this;simp(disch:=first|exact Dq|fail)only[go_sem];grind
theorem knuth{N hi lo y s Y U T:Nat}(A:s<=63)(m:hi<y)(x:lo<18446744073709551616)(t:N=hi*18446744073709551616+lo)(c:Y=y*2^s)(B:U=hi*2^s+lo/2^(64-s))(w:T=lo*2^s%18446744073709551616):U<Y/\lo/2^(64-s)<2^s/\hi*2^s<Y/\∀D V E R:Nat,D=(U*4294967296+T/4294967296)/Y->V=(U*4294967296+T/4294967296)%Y->E=(V*4294967296+T%4294967296)/Y->R=(V*4294967296+T%4294967296)%Y->D*4294967296+E=N/y/\R/2^s=N%y:=by
 have p:0<2^s:=Nat.pow_pos (by simp);have l:2^(64-s)*2^s=18446744073709551616:=by rw[<-Nat.pow_add,show 64-s+s=64 by omega]
 have u:lo*2^s/18446744073709551616=lo/2^(64-s):=by rw[<-l,Nat.mul_div_mul_right _ _ p]
 have z:lo*2^s=18446744073709551616*(lo/2^(64-s))+T:=by grind
 have v:U*18446744073709551616+T=N*2^s:=by grind
 have q:lo/2^(64-s)<2^s:=Nat.div_lt_of_lt_mul (by grind);have i:(hi+1)*2^s<=Y:=by rw[c];exact Nat.mul_le_mul_right _ m
 rw[Nat.add_mul,Nat.one_mul]at i;have a:0<Y:=by omega
 refine⟨by omega,q,by omega,?_⟩;intro D V E R n o j f;have r:=Nat.div_add_mod (U*4294967296+T/4294967296) Y;have k:=Nat.div_add_mod (V*4294967296+T%4294967296) Y;rw[<-n,<-o]at r;rw[<-j,<-f]at k;have b:R<Y:=by rw[f];exact Nat.mod_lt _ a
 have g:N*2^s=Y*(D*4294967296+E)+R:=by grind
 have e:N*2^s/Y=D*4294967296+E:=by rw[g,Nat.mul_add_div a,Nat.div_eq_of_lt b,Nat.add_zero]
 have h:N*2^s%Y=R:=by rw[g,Nat.mul_add_mod,Nat.mod_eq_of_lt b]
 rw[c,Nat.mul_div_mul_right _ _ p]at e;rw[c,Nat.mul_mod_mul_right]at h;exact⟨e.symm,by rw[<-h,Nat.mul_div_cancel _ p]⟩
theorem DV{H L:Nat}(h:H+L<18446744073709551616)(e:H|||L=H+L):cb .or (.p (.int .u64 (H:Int))) (.p (.int .u64 (L:Int)))=some (.p (.int .u64 ((H+L:Nat):Int))):=by
 have b:∀n:Nat,n<18446744073709551616->(BitVec.ofInt IntKind.u64.bits (n:Int)).toNat=n:=by
  intro n c;rw[BitVec.toNat_ofInt];have f:((2^IntKind.u64.bits:Nat):Int)=18446744073709551616:=by rfl
  grind
 have a:((BitVec.ofInt IntKind.u64.bits (H:Int)|||BitVec.ofInt IntKind.u64.bits (L:Int)).toNat:Int)=((H+L:Nat):Int):=by grind
 simp only[cb,ly,gt,true_or,if_true,Option.map_some,a];rw[wrap_u64 (by omega) (by omega)]
theorem HP{lo y:Nat}(b:0<y)(a:y<18446744073709551616)(d:lo<18446744073709551616):res Γ 147 [.int .u64 ((0:Nat):Int),.int .u64 (lo:Int),.int .u64 (y:Int)]=some [.int .u64 ((lo/y:Nat):Int),.int .u64 ((lo%y:Nat):Int)]:=by refine ae (fn:=fh) rfl rfl ?_;simp(disch:=first|exact Dq|fail)only[go_sem,fh,zS];simp
theorem Cs{hi lo y:Nat}(B:0<hi)(h:hi<y)(hy:y<18446744073709551616)(hl:lo<18446744073709551616):res Γ 147 [.int .u64 (hi:Int),.int .u64 (lo:Int),.int .u64 (y:Int)]=some [.int .u64 (((hi*18446744073709551616+lo)/y:Nat):Int),.int .u64 (((hi*18446744073709551616+lo)%y:Nat):Int)]:=by
 obtain⟨s,O,J,i,m⟩:=res_LZ (y:=y) (by omega);obtain⟨Y,A⟩:∃Y,Y=y*2^s:=⟨_,rfl⟩;obtain⟨T,F⟩:∃T,T=lo*2^s%18446744073709551616:=⟨_,rfl⟩;obtain⟨U,q⟩:∃U,U=hi*2^s+lo/2^(64-s):=⟨_,rfl⟩;obtain⟨k1,k2,k3,k4⟩:=knuth (N:=hi*18446744073709551616+lo) J h hl rfl A q F;obtain⟨D,v⟩:∃D,D=(U*4294967296+T/4294967296)/Y:=⟨_,rfl⟩;obtain⟨V,c⟩:∃V,V=(U*4294967296+T/4294967296)%Y:=⟨_,rfl⟩;obtain⟨E,z⟩:∃E,E=(V*4294967296+T%4294967296)/Y:=⟨_,rfl⟩;obtain⟨R,l⟩:∃R,R=(V*4294967296+T%4294967296)%Y:=⟨_,rfl⟩;obtain⟨f1,f2⟩:=k4 D V E R v c z l;rw[<-A]at i m;have S:V<Y:=by rw[c];exact Nat.mod_lt _ (by omega)
 have hR2:R<Y:=by rw[l];exact Nat.mod_lt _ (by omega)
 have d1:=Nat.div_add_mod (U*4294967296+T/4294967296) Y;have M:=Nat.div_add_mod (V*4294967296+T%4294967296) Y;rw[<-v,<-c]at d1;rw[<-z,<-l]at M;have m1:D*Y<=U*4294967296+T/4294967296:=by grind
 have m2:E*Y<=V*4294967296+T%4294967296:=by grind
 have m1':U*4294967296+T/4294967296<(D+1)*Y:=by grind
 have m2':V*4294967296+T%4294967296<(E+1)*Y:=by grind
 have lD:D<4294967296:=Nat.lt_of_mul_lt_mul_right (a:=Y) (by omega);have lE:E<4294967296:=Nat.lt_of_mul_lt_mul_right (a:=Y) (by omega);obtain⟨H,b⟩:∃H,H=hi*2^s:=⟨_,rfl⟩;obtain⟨L,w⟩:∃L,L=lo/2^(64-s):=⟨_,rfl⟩;have j:H|||L=H+L:=by rw[b,Nat.mul_comm];rw[<-w]at k2;exact(Nat.two_pow_add_eq_or_of_lt k2 hi).symm
 rw[<-b,<-w]at q;rw[<-b]at k3;have eY:(y:Int)*2^s=(Y:Int):=by grind
 have eH:(hi:Int)*2^s=(H:Int):=by grind
 have X:IntKind.u64.wrap ((lo:Int)*2^s)=(T:Int):=by rw[F,di];simp
 have eL:(lo:Int)/2^(64-s)=(L:Int):=by grind
 have n:((64:Int)-(s:Int)).toNat=64-s:=by omega
 have r:=DV (H:=H) (L:=L) (by omega) j;rw[<-q]at r;have t:(D:Int)*(Y:Int)<=(U:Int)*4294967296+(T:Int)/4294967296:=by omega
 have g:(U:Int)*4294967296+(T:Int)/4294967296<((D:Int)+1)*(Y:Int):=by grind
 have G:(E:Int)*(Y:Int)<=(V:Int)*4294967296+(T:Int)%4294967296:=by omega
 have d:(V:Int)*4294967296+(T:Int)%4294967296<((E:Int)+1)*(Y:Int):=by grind
 have g1:(Y:Int)*(D:Int)+(V:Int)=(U:Int)*4294967296+(T:Int)/4294967296:=by omega
 have g2:(Y:Int)*(E:Int)+(R:Int)=(V:Int)*4294967296+(T:Int)%4294967296:=by omega
 have W:IntKind.u64.wrap (IntKind.u64.wrap (IntKind.u64.wrap ((U:Int)*4294967296)+(T:Int)/4294967296)-IntKind.u64.wrap ((D:Int)*(Y:Int)))=(V:Int):=by rw[Int.mul_comm]at g1;simp only[di];omega
 have eR:IntKind.u64.wrap (IntKind.u64.wrap (IntKind.u64.wrap ((V:Int)*4294967296)+(T:Int)%4294967296)-IntKind.u64.wrap ((E:Int)*(Y:Int)))=(R:Int):=by rw[Int.mul_comm]at g2;simp only[di];omega
 have eQ:(R:Int)/2^s=((R/2^s:Nat):Int):=by simp
 have n1:(0:Int)<(Y:Int)/4294967296:=by omega
 have k:=GJ (Y:=(Y:Int)) (n1:=(Y:Int)/4294967296) (n0:=(Y:Int)%4294967296) (U:=U) (u:=(T:Int)/4294967296) (Q:=D) (by omega) (by omega) (by omega) (by omega) (by omega) t;have o:=GJ (Y:=(Y:Int)) (n1:=(Y:Int)/4294967296) (n0:=(Y:Int)%4294967296) (U:=V) (u:=(T:Int)%4294967296) (Q:=E) (by omega) (by omega) (by omega) (by omega) (by omega) G;have C:∀x:Int,0<=x->x<18446744073709551616->x/((Y:Int)/4294967296)<=8589934592/\x=x/((Y:Int)/4294967296)*((Y:Int)/4294967296)+x%((Y:Int)/4294967296)/\0<=x%((Y:Int)/4294967296)/\x%((Y:Int)/4294967296)<(Y:Int)/4294967296:=by intro x B h1;have I:=Int.emod_nonneg x (Int.ne_of_gt n1);have f:=Int.emod_lt_of_pos x n1;have e:=Int.mul_ediv_add_emod x ((Y:Int)/4294967296);rw[Int.mul_comm]at e;refine⟨?_,by omega,I,f⟩;have hle:x/((Y:Int)/4294967296)*2147483648<=x/((Y:Int)/4294967296)*((Y:Int)/4294967296):=Int.mul_le_mul_of_nonneg_left (by omega) (Int.ediv_nonneg B (by omega));omega
 have a1:0<=(U:Int)/((Y:Int)/4294967296)*((Y:Int)/4294967296):=Int.mul_nonneg (Int.ediv_nonneg (by omega) (by omega)) (by omega);have a2:0<=(V:Int)/((Y:Int)/4294967296)*((Y:Int)/4294967296):=Int.mul_nonneg (Int.ediv_nonneg (by omega) (by omega)) (by omega);obtain⟨x1,Z,x3,x4⟩:=C U (by omega) (by omega);obtain⟨z1,z2,K,z4⟩:=C V (by omega) (by omega);have w1:(U:Int)-(U:Int)/((Y:Int)/4294967296)*((Y:Int)/4294967296)=(U:Int)%((Y:Int)/4294967296):=by omega
 have w2:(V:Int)-(V:Int)/((Y:Int)/4294967296)*((Y:Int)/4294967296)=(V:Int)%((Y:Int)/4294967296):=by omega
 have f:∀x:Int,cb .shr (.p (.int .u64 x)) (.p (.int .u64 (s:Int)))=some (.p (.int .u64 (x/2^s))):=λx=>by rw[ob (by omega) (by omega),ud]
 have P:∀x:Int,cb .shr (.p (.int .u64 x)) (.p (.int .u64 (64-(s:Int))))=some (.p (.int .u64 (x/2^(64-s)))):=λx=>by rw[ob (by omega) (by omega),n]
 have r3:∀x:Int,cb .shl (.p (.int .u64 x)) (.p (.int .u64 (s:Int)))=some (.p (.int .u64 (IntKind.u64.wrap (x*2^s)))):=λx=>by rw[Ir (by omega) (by omega),ud]
 rw[<-f1,<-f2];refine ae (fn:=fh) rfl rfl ?_;simp(disch:=first|exact Dq|fail)only[go_sem,fh,O,P,r3,kT,xP,zS,eY,eH,X,eL,r,w1];refine Tv (Y:=Y) (n1:=(Y:Int)/4294967296) (n0:=(Y:Int)%4294967296) (D:=D) (by omega) (by omega) (by omega) (by omega) (by omega) (by omega) t g 2 _ _ _ Z x3 (by omega) k x1 (by omega) ?_;simp(disch:=first|exact Dq|fail)only[go_sem,W,zS,w2];refine Qn (Y:=Y) (n1:=(Y:Int)/4294967296) (n0:=(Y:Int)%4294967296) (D:=E) (by omega) (by omega) (by omega) (by omega) (by omega) (by omega) G d 2 _ _ _ z2 K (by omega) o z1 (by omega) ?_;simp(disch:=first|exact Dq|fail)only[go_sem,eR,f,eQ];simp
def mdR:Option Int->List PV|some n=>[.int .i64 n,.bool true]|none=>[.int .i64 0,.bool false]
theorem KM{a b c:Int}(h:c=0):mdV a b c=none:=by unfold mdV;grind
def mdQ(P C:Nat):Nat:=if C-P%C<=P%C then P/C+1 else P/C
theorem mdV_no{a b c:Int}(h:c≠0)(e:4611686018427387904<mdQ (a.natAbs*b.natAbs) c.natAbs):mdV a b c=none:=by unfold mdV maxN;unfold mdQ at e;grind
theorem Tk{a b c:Int}(h:c≠0)(d:mdQ (a.natAbs*b.natAbs) c.natAbs<=4611686018427387904):mdV a b c=some (if((decide (a<0)!=decide (b<0))!=decide (c<0))=true then-((mdQ (a.natAbs*b.natAbs) c.natAbs:Nat):Int)else((mdQ (a.natAbs*b.natAbs) c.natAbs:Nat):Int)):=by unfold mdV maxN;unfold mdQ at d⊢;grind
theorem Dy{a:Int}(h:-9223372036854775808<=a/\a<=9223372036854775807):res Γ 148 [.int .i64 a]=some [.int .u64 (a.natAbs:Int)]:=by
 refine ae (fn:=mj) rfl rfl ?_;by_cases d:a<0
 ·have b:IntKind.u64.wrap a=a+18446744073709551616:=by rw[di];omega
  have c:IntKind.u64.wrap (0-(a+18446744073709551616))=(a.natAbs:Int):=by rw[di];omega
  simp(disch:=first|exact Dq|fail)only[go_sem,mj,b,c]
 ·have b:IntKind.u64.wrap a=(a.natAbs:Int):=by rw[di];omega
  simp(disch:=first|exact Dq|fail)only[go_sem,mj,b]
theorem ND{A B:Nat}(a:A<18446744073709551616)(c:B<18446744073709551616):res Γ 149 [.int .u64 (A:Int),.int .u64 (B:Int)]=some [.int .u64 ((A*B/18446744073709551616:Nat):Int),.int .u64 ((A*B%18446744073709551616:Nat):Int)]:=by rw[TK (by omega) (by omega)];simp
theorem Td{P C:Nat}(a:C<18446744073709551616)(h:P/18446744073709551616<C):res Γ 147 [.int .u64 ((P/18446744073709551616:Nat):Int),.int .u64 ((P%18446744073709551616:Nat):Int),.int .u64 (C:Int)]=some [.int .u64 ((P/C:Nat):Int),.int .u64 ((P%C:Nat):Int)]:=by
 have d:P%18446744073709551616<18446744073709551616:=Nat.mod_lt _ (by simp);by_cases c:P/18446744073709551616=0
 ·have b:P%18446744073709551616=P:=by omega
  rw[c,b,HP (by omega) a (by omega)]
 ·have :=Cs (by omega) h a d;grind
theorem zX{a b c:Int}(ha:-9223372036854775808<=a/\a<=9223372036854775807)(hb:-9223372036854775808<=b/\b<=9223372036854775807)(hc:-9223372036854775808<=c/\c<=9223372036854775807):res Γ 144 [.int .i64 a,.int .i64 b,.int .i64 c]=some (mdR (mdV a b c)):=by
 refine ae (fn:=dU) rfl rfl ?_;by_cases hc0:c=0;·rw[KM hc0];simp(disch:=first|exact Dq|fail)only[go_sem,dU,mdR]
 have s1:=Dy ha;have s2:=Dy hb;have s3:=Dy hc;have no:=@mdV_no a b c hc0;have yes:=@Tk a b c hc0;obtain⟨A,hA⟩:∃A,A=a.natAbs:=⟨_,rfl⟩;obtain⟨B,hB⟩:∃B,B=b.natAbs:=⟨_,rfl⟩;obtain⟨C,hC⟩:∃C,C=c.natAbs:=⟨_,rfl⟩;rw[<-hA]at s1 no yes;rw[<-hB]at s2 no yes;rw[<-hC]at s3 no yes;obtain⟨P,hP⟩:∃P,P=A*B:=⟨_,rfl⟩;have m:=ND (A:=A) (B:=B) (by omega) (by omega);rw[<-hP]at m no yes;have hCpos:0<C:=by omega
 have rl:=Nat.mod_lt P hCpos;by_cases hh:C<=P/18446744073709551616;·have :18446744073709551616<=P/C:=(Nat.le_div_iff_mul_le hCpos).2 (by omega);rw[no (by unfold mdQ;grind)];simp(disch:=first|exact Dq|fail)only[go_sem,dU,mdR,s1,s2,s3,m]
 have d:=Td (P:=P) (C:=C) (by omega) (by omega);by_cases hq:4611686018427387904<P/C;·rw[no (by unfold mdQ;grind)];simp(disch:=first|exact Dq|fail)only[go_sem,dU,mdR,s1,s2,s3,m,d]
 by_cases hr:C-P%C<=P%C
 ·by_cases hq2:4611686018427387904<P/C+1;·rw[no (by unfold mdQ;grind)];simp(disch:=first|exact Dq|fail)only[go_sem,dU,mdR,s1,s2,s3,m,d]
  ·have e:mdQ P C=P/C+1:=by unfold mdQ;grind
   rw[e]at yes;rw[yes (by omega)];cases ea:decide (a<0)<;>cases eb:decide (b<0)<;>cases ec:decide (c<0)<;>simp(disch:=first|exact Dq|fail)only[go_sem,dU,mdR,s1,s2,s3,m,d,ea,eb,ec]<;>simp
 ·have e:mdQ P C=P/C:=by unfold mdQ;grind
  rw[e]at yes;rw[yes (by omega)];cases ea:decide (a<0)<;>cases eb:decide (b<0)<;>cases ec:decide (c<0)<;>simp(disch:=first|exact Dq|fail)only[go_sem,dU,mdR,s1,s2,s3,m,d,ea,eb,ec]<;>simp
theorem lR{x:Int}(c:0<=x)(b:x<=18446744073709551615):cb .and (.p (.int .u64 x)) (.p (.int .u64 1))=some (.p (.int .u64 (x%2))):=by
 have e:(BitVec.ofInt IntKind.u64.bits 1).toNat=2^1-1:=by rfl
 have d:((2^IntKind.u64.bits:Nat):Int)=18446744073709551616:=by rfl
 have a:((BitVec.ofInt IntKind.u64.bits x&&&BitVec.ofInt IntKind.u64.bits 1).toNat:Int)=x%2:=by rw[BitVec.toNat_and,e,Nat.and_two_pow_sub_one_eq_mod,BitVec.toNat_ofInt,d];omega
 simp only[cb,ly,gt,true_or,if_true,Option.map_some,a];rw[wrap_u64 (by omega) (by omega)]
theorem jL{x:Int}(c:0<=x)(d:x<=127):cb .and (.p (.int .i64 x)) (.p (.int .i64 63))=some (.p (.int .i64 (x%64))):=by
 have e:(BitVec.ofInt IntKind.i64.bits 63).toNat=2^6-1:=by rfl
 have b:((2^IntKind.i64.bits:Nat):Int)=18446744073709551616:=by rfl
 have a:((BitVec.ofInt IntKind.i64.bits x&&&BitVec.ofInt IntKind.i64.bits 63).toNat:Int)=x%64:=by rw[BitVec.toNat_and,e,Nat.and_two_pow_sub_one_eq_mod,BitVec.toNat_ofInt,b];omega
 simp only[cb,ly,gt,true_or,if_true,Option.map_some,a];rw[wrap_i64 (by omega) (by omega)]
theorem tC{a:Int}(h:-9223372036854775808<=a/\a<=9223372036854775807):res Γ 167 [.int .i64 a]=some [.int .u64 (a.natAbs:Int)]:=by
 refine ae (fn:=zK) rfl rfl ?_;by_cases d:a<0
 ·have b:(0-(a+1))+1=(a.natAbs:Int):=by omega
  simp(disch:=first|exact Dq|fail)only[go_sem,zK,b]
 ·have b:IntKind.u64.wrap a=(a.natAbs:Int):=by rw[di];omega
  simp(disch:=first|exact Dq|fail)only[go_sem,zK,b]
theorem bit_step{X d b:Nat}(f:0<d)(i:b<2):(if d<=2*(X%d)+b then((2*X+b)/d=2*(X/d)+1/\(2*X+b)%d=2*(X%d)+b-d)else((2*X+b)/d=2*(X/d)/\(2*X+b)%d=2*(X%d)+b)):=by
 have e:=Nat.div_add_mod X d;have l:=Nat.mod_lt X f;split
 ·rename_i h;have g:2*X+b=d*(2*(X/d)+1)+(2*(X%d)+b-d):=by grind
  have c:2*(X%d)+b-d<d:=by omega
  rw[g,Nat.mul_add_div f,Nat.mul_add_mod,Nat.div_eq_of_lt c,Nat.mod_eq_of_lt c];simp
 ·rename_i h;have g:2*X+b=d*(2*(X/d))+(2*(X%d)+b):=by grind
  have c:2*(X%d)+b<d:=by omega
  rw[g,Nat.mul_add_div f,Nat.mul_add_mod,Nat.div_eq_of_lt c,Nat.mod_eq_of_lt c];simp
theorem orOne{x:Nat}:2*x|||1=2*x+1:=by have :=Nat.two_pow_add_eq_or_of_lt (i:=1) (b:=1) (by simp) x;grind
theorem orBit{x b:Nat}(c:b<2):2*x|||b=2*x+b:=by have :=Nat.two_pow_add_eq_or_of_lt (i:=1) (b:=b) (by grind) x;grind
theorem lM(x:Int):cb .shl (.p (.int .u64 x)) (.p (.int .u64 1))=some (.p (.int .u64 (IntKind.u64.wrap (x*2)))):=by rfl
theorem sq(x:Int):cb .shr (.p (.int .u64 x)) (.p (.int .u64 62))=some (.p (.int .u64 (x/4611686018427387904))):=by rw[ob (by simp) (by simp)];rfl
theorem jW(x:Int):cb .shr (.p (.int .u64 x)) (.p (.int .u64 63))=some (.p (.int .u64 (x/9223372036854775808))):=by rw[ob (by simp) (by simp)];rfl
theorem md_l1_ok{a b c:PV}{h l d P:Nat}(hh:h<18446744073709551616)(hl:l<18446744073709551616)(hP:P=h*18446744073709551616+l)(hd:0<d/\d<=9223372036854775808):∀(k:Nat)(Q:Out->Prop),k<=128->Q (.nrm,[(0,.p a),(1,.p b),(2,.p c),(10,.p (.int .u64 (d:Int))),(11,.p (.int .u64 ((P/d%18446744073709551616:Nat):Int))),(12,.p (.int .u64 ((P%d:Nat):Int))),(13,.p (.bool (decide (9223372036854775808<=P/d))))],[])->Wp Γ cQ [(0,.p a),(1,.p b),(2,.p c),(8,.p (.int .u64 (h:Int))),(9,.p (.int .u64 (l:Int))),(10,.p (.int .u64 (d:Int))),(11,.p (.int .u64 ((P/2^k/d%18446744073709551616:Nat):Int))),(12,.p (.int .u64 ((P/2^k%d:Nat):Int))),(13,.p (.bool (decide (9223372036854775808<=P/2^k/d)))),(14,.p (.int .i64 ((k:Int)-1)))] [] (aW [0,1,2,10,11,12,13] 0 Q):=by intro k;induction k with
 |zero=>intro Q _ hQ;simp only[Nat.pow_zero,Nat.div_one];rw[aa (L:=cQ) rfl];simp(disch:=first|exact Dq|fail)only[go_sem];grind|succ k ih=>
  intro Q hk hQ;have ek:(((k+1:Nat):Int)-1)=(k:Int):=by omega
  rw[ek];obtain⟨X,hX⟩:∃X,X=P/2^(k+1):=⟨_,rfl⟩;obtain⟨t,ht⟩:∃t,t=P/2^k%2:=⟨_,rfl⟩;have t2:t<2:=by omega
  have eX:P/2^k=2*X+t:=by
   have :P/2^(k+1)=P/2^k/2:=by rw[Nat.pow_succ,Nat.div_div_eq_div_mul]
   omega
  have st:=bit_step (X:=X) (d:=d) (b:=t) hd.1 t2;obtain⟨R,hR⟩:∃R,R=X%d:=⟨_,rfl⟩;obtain⟨G,hG⟩:∃G,G=X/d:=⟨_,rfl⟩;have hRd:R<d:=by rw[hR];exact Nat.mod_lt _ hd.1
  obtain⟨Lk,hLk⟩:∃Lk,Lk=l/2^(k%64):=⟨_,rfl⟩;have hLk2:Lk<18446744073709551616:=by rw[hLk];exact Nat.lt_of_le_of_lt (Nat.div_le_self _ _) hl
  have rl:cb .shr (.p (.int .u64 (l:Int))) (.p (.int .u64 ((k:Int)%64)))=some (.p (.int .u64 (Lk:Int))):=by rw[ob (by omega) (by omega),show((k:Int)%64).toNat=k%64 by omega,hLk];simp
  rw[<-hX,<-hR,<-hG];rw[<-hR,<-hG]at st;have goOn:=ih Q (by omega) hQ;rw[eX]at goOn;have sh2:IntKind.u64.wrap (((G%18446744073709551616:Nat):Int)*2)=((2*(G%9223372036854775808):Nat):Int):=by rw[di];omega
  have shR:IntKind.u64.wrap ((R:Int)*2)=((2*R:Nat):Int):=by rw[di];omega
  have top0:(R:Int)/9223372036854775808=0:=by omega
  have or1:=DV (H:=2*R) (L:=t) (by omega) (orBit t2);have or2:cb .or (.p (.int .u64 ((2*(G%9223372036854775808):Nat):Int))) (.p (.int .u64 1))=some (.p (.int .u64 ((2*(G%9223372036854775808)+1:Nat):Int))):=DV (H:=2*(G%9223372036854775808)) (L:=1) (by omega) orOne;have e11:(2*G+1)%18446744073709551616=2*(G%9223372036854775808)+1:=by omega
  have e11':(2*G)%18446744073709551616=2*(G%9223372036854775808):=by omega
  by_cases h64:64<=k
  ·obtain⟨Hk,hHk⟩:∃Hk,Hk=h/2^(k-64):=⟨_,rfl⟩;have hHk2:Hk<18446744073709551616:=by rw[hHk];exact Nat.lt_of_le_of_lt (Nat.div_le_self _ _) hh
   have rh:cb .shr (.p (.int .u64 (h:Int))) (.p (.int .u64 ((k:Int)-64)))=some (.p (.int .u64 (Hk:Int))):=by rw[ob (by omega) (by omega),show((k:Int)-64).toNat=k-64 by omega,hHk];simp
   have et:(Hk:Int)%2=(t:Int):=by
    have :P/2^k=Hk:=by rw[hHk,show 2^k=18446744073709551616*2^(k-64)by rw[show(18446744073709551616:Nat)=2^64 by rfl,<-Nat.pow_add,show 64+(k-64)=k by omega],<-Nat.div_div_eq_div_mul,hP,show(h*18446744073709551616+l)/18446744073709551616=h by omega]
    grind
   by_cases hO:9223372036854775808<=G
   ·by_cases hr:d<=2*R+t
    ·rw[if_pos hr]at st;rw[st.1,st.2,e11]at goOn;have eo:decide (9223372036854775808<=G)=true:=decide_eq_true hO;have e13:decide (9223372036854775808<=2*G+1)=true:=decide_eq_true (by omega);rw[e13]at goOn;have e12:((2*R+t:Nat):Int)-(d:Int)=((2*R+t-d:Nat):Int):=by omega
     rw[aa (L:=cQ) rfl];simp(disch:=first|exact Dq|fail)only[go_sem,jL,lR,rl,rh,et,jW,lM,sh2,shR,top0,or1,eo,e12,or2];grind
    ·rw[if_neg hr]at st;rw[st.1,st.2,e11']at goOn;have eo:decide (9223372036854775808<=G)=true:=decide_eq_true hO;have e13:decide (9223372036854775808<=2*G)=true:=decide_eq_true (by omega);rw[e13]at goOn;rw[aa (L:=cQ) rfl];simp(disch:=first|exact Dq|fail)only[go_sem,jL,lR,rl,rh,et,jW,lM,sh2,shR,top0,or1,eo];grind
   ·by_cases hr:d<=2*R+t
    ·rw[if_pos hr]at st;rw[st.1,st.2,e11]at goOn;have eo:decide (9223372036854775808<=G)=false:=decide_eq_false hO;have en:decide (((G%18446744073709551616:Nat):Int)/4611686018427387904≠0)=decide (4611686018427387904<=G):=by grind
     have e13:decide (9223372036854775808<=2*G+1)=decide (4611686018427387904<=G):=by grind
     rw[e13]at goOn;have e12:((2*R+t:Nat):Int)-(d:Int)=((2*R+t-d:Nat):Int):=by omega
     rw[aa (L:=cQ) rfl];simp(disch:=first|exact Dq|fail)only[go_sem,jL,lR,rl,rh,et,jW,sq,lM,sh2,shR,top0,or1,eo,en,e12,or2];grind
    ·rw[if_neg hr]at st;rw[st.1,st.2,e11']at goOn;have eo:decide (9223372036854775808<=G)=false:=decide_eq_false hO;have en:decide (((G%18446744073709551616:Nat):Int)/4611686018427387904≠0)=decide (9223372036854775808<=2*G):=by grind
     rw[aa (L:=cQ) rfl];simp(disch:=first|exact Dq|fail)only[go_sem,jL,lR,rl,rh,et,jW,sq,lM,sh2,shR,top0,or1,eo,en];grind
  ·have et:(Lk:Int)%2=(t:Int):=by
    have e:18446744073709551616=2^k*(2*2^(63-k)):=by rw[show(18446744073709551616:Nat)=2^64 by rfl,<-Nat.pow_succ',<-Nat.pow_add,show k+(63-k+1)=64 by omega]
    have :P/2^k=2*(h*2^(63-k))+Lk:=by rw[hP,hLk,show k%64=k by omega,e,show h*(2^k*(2*2^(63-k)))+l=2^k*(2*(h*2^(63-k)))+l by grind,Nat.mul_add_div (Nat.pow_pos (by simp))]
    grind
   by_cases hO:9223372036854775808<=G
   ·by_cases hr:d<=2*R+t
    ·rw[if_pos hr]at st;rw[st.1,st.2,e11]at goOn;have eo:decide (9223372036854775808<=G)=true:=decide_eq_true hO;have e13:decide (9223372036854775808<=2*G+1)=true:=decide_eq_true (by omega);rw[e13]at goOn;have e12:((2*R+t:Nat):Int)-(d:Int)=((2*R+t-d:Nat):Int):=by omega
     rw[aa (L:=cQ) rfl];simp(disch:=first|exact Dq|fail)only[go_sem,jL,lR,rl,et,jW,lM,sh2,shR,top0,or1,eo,e12,or2];grind
    ·rw[if_neg hr]at st;rw[st.1,st.2,e11']at goOn;have eo:decide (9223372036854775808<=G)=true:=decide_eq_true hO;have e13:decide (9223372036854775808<=2*G)=true:=decide_eq_true (by omega);rw[e13]at goOn;rw[aa (L:=cQ) rfl];simp(disch:=first|exact Dq|fail)only[go_sem,jL,lR,rl,et,jW,lM,sh2,shR,top0,or1,eo];grind
   ·by_cases hr:d<=2*R+t
    ·rw[if_pos hr]at st;rw[st.1,st.2,e11]at goOn;have eo:decide (9223372036854775808<=G)=false:=decide_eq_false hO;have en:decide (((G%18446744073709551616:Nat):Int)/4611686018427387904≠0)=decide (4611686018427387904<=G):=by grind
     have e13:decide (9223372036854775808<=2*G+1)=decide (4611686018427387904<=G):=by grind
     rw[e13]at goOn;have e12:((2*R+t:Nat):Int)-(d:Int)=((2*R+t-d:Nat):Int):=by omega
     rw[aa (L:=cQ) rfl];simp(disch:=first|exact Dq|fail)only[go_sem,jL,lR,rl,et,jW,sq,lM,sh2,shR,top0,or1,eo,en,e12,or2];grind
    ·rw[if_neg hr]at st;rw[st.1,st.2,e11']at goOn;have eo:decide (9223372036854775808<=G)=false:=decide_eq_false hO;have en:decide (((G%18446744073709551616:Nat):Int)/4611686018427387904≠0)=decide (9223372036854775808<=2*G):=by grind
     rw[aa (L:=cQ) rfl];simp(disch:=first|exact Dq|fail)only[go_sem,jL,lR,rl,et,jW,sq,lM,sh2,shR,top0,or1,eo,en];grind
theorem mul_low{x y:Int}(b:0<=x/\x<18446744073709551616)(c:0<=y/\y<18446744073709551616):((x/4294967296*(y%4294967296)+x%4294967296*(y%4294967296)/4294967296)%4294967296+x%4294967296*(y/4294967296))%4294967296*4294967296+x%4294967296*(y%4294967296)%4294967296=x*y%18446744073709551616:=by let⟨f,g,d,e,_,_⟩:=tW b c;grind
theorem TC{A B:Nat}(hA:A<18446744073709551616)(m:B<18446744073709551616):res Γ 168 [.int .u64 (A:Int),.int .u64 (B:Int)]=some [.int .u64 ((A*B/18446744073709551616:Nat):Int),.int .u64 ((A*B%18446744073709551616:Nat):Int)]:=by
 let⟨b1,b2,n,o,e,k⟩:=tW (x:=(A:Int)) (y:=(B:Int)) (by omega) (by omega);have lo:=mul_low (x:=(A:Int)) (y:=(B:Int)) (by omega) (by omega);have d:((A*B/18446744073709551616:Nat):Int)=(A:Int)*B/18446744073709551616:=by simp
 have f:((A*B%18446744073709551616:Nat):Int)=(A:Int)*B%18446744073709551616:=by simp
 rw[<-e]at k d;rw[<-lo]at f;rw[d,f];generalize hw:((A:Int)/4294967296*((B:Int)%4294967296)+(A:Int)%4294967296*((B:Int)%4294967296)/4294967296)%4294967296+(A:Int)%4294967296*((B:Int)/4294967296)=w at*;have c:(A:Int)%4294967296*((B:Int)/4294967296)+((A:Int)/4294967296*((B:Int)%4294967296)+(A:Int)%4294967296*((B:Int)%4294967296)/4294967296)%4294967296=w:=by omega
 have l:∀x:Int,cb .shl (.p (.int .u64 x)) (.p (.int .u64 32))=some (.p (.int .u64 (IntKind.u64.wrap (x*4294967296)))):=λx=>by rfl
 have g:IntKind.u64.wrap (w*4294967296)=((4294967296*(w%4294967296).toNat:Nat):Int):=by rw[di];omega
 let⟨z,j⟩:∃z:Nat,(z:Int)=(A:Int)%4294967296*((B:Int)%4294967296)%4294967296:=⟨((A:Int)%4294967296*((B:Int)%4294967296)%4294967296).toNat,by omega⟩;have a:=DV (H:=4294967296*(w%4294967296).toNat) (L:=z) (by omega) (Nat.two_pow_add_eq_or_of_lt (i:=32) (b:=z) (by omega) _).symm;have h:w%4294967296*4294967296+(A:Int)%4294967296*((B:Int)%4294967296)%4294967296=((4294967296*(w%4294967296).toNat+z:Nat):Int):=by omega
 rw[h];refine ae (fn:=wj) rfl rfl ?_;simp(disch:=first|exact Dq|fail)only[go_sem,wj,kT,xP,l,c,g,<-j,a]
theorem Fj{a b c:Int}(ha:-9223372036854775808<=a/\a<=9223372036854775807)(hb:-9223372036854775808<=b/\b<=9223372036854775807)(hc:-9223372036854775808<=c/\c<=9223372036854775807):res Γ 164 [.int .i64 a,.int .i64 b,.int .i64 c]=some (mdR (mdV a b c)):=by
 refine ae (fn:=oi) rfl rfl ?_;by_cases hc0:c=0;·rw[KM hc0];simp(disch:=first|exact Dq|fail)only[go_sem,oi,mdR]
 have s1:=tC ha;have s2:=tC hb;have s3:=tC hc;have no:=@mdV_no a b c hc0;have yes:=@Tk a b c hc0;obtain⟨A,hA⟩:∃A,A=a.natAbs:=⟨_,rfl⟩;obtain⟨B,hB⟩:∃B,B=b.natAbs:=⟨_,rfl⟩;obtain⟨C,hC⟩:∃C,C=c.natAbs:=⟨_,rfl⟩;rw[<-hA]at s1 no yes;rw[<-hB]at s2 no yes;rw[<-hC]at s3 no yes;obtain⟨P,hP⟩:∃P,P=A*B:=⟨_,rfl⟩;have m:=TC (A:=A) (B:=B) (by omega) (by omega);rw[<-hP]at m no yes;have hCpos:0<C:=by omega
 have rl:=Nat.mod_lt P hCpos;have hP2:P<2^128:=by rw[hP];exact Nat.lt_of_le_of_lt (Nat.mul_le_mul (show A<=9223372036854775808 by omega) (show B<=9223372036854775808 by omega)) (by simp)
 have P0:P/2^128=0:=Nat.div_eq_of_lt hP2;have loop:=md_l1_ok (a:=.int .i64 a) (b:=.int .i64 b) (c:=.int .i64 c) (h:=P/18446744073709551616) (l:=P%18446744073709551616) (d:=C) (P:=P) (by omega) (Nat.mod_lt _ (by simp)) (Nat.div_add_mod' P _).symm (by omega) 128;rw[P0,Nat.zero_div,Nat.zero_mod,Nat.zero_mod]at loop;simp(disch:=first|exact Dq|fail)only[go_sem,oi,s1,s2,s3,m];refine loop _ (by simp) ?_;by_cases hO:9223372036854775808<=P/C
 ·have eo:decide (9223372036854775808<=P/C)=true:=decide_eq_true hO;rw[no (by unfold mdQ;grind)];by_cases hr:C-P%C<=P%C;·simp(disch:=first|exact Dq|fail)only[go_sem,mdR,eo]
  ·simp(disch:=first|exact Dq|fail)only[go_sem,mdR,eo]
 have eo:decide (9223372036854775808<=P/C)=false:=decide_eq_false hO;have em:P/C%18446744073709551616=P/C:=Nat.mod_eq_of_lt (by omega);rw[em];by_cases hr:C-P%C<=P%C
 ·have e:mdQ P C=P/C+1:=by unfold mdQ;grind
  rw[e]at yes no;by_cases hq2:4611686018427387904<P/C+1;·rw[no hq2];simp(disch:=first|exact Dq|fail)only[go_sem,mdR,eo]
  ·rw[yes (by omega)];cases ea:decide (a<0)<;>cases eb:decide (b<0)<;>cases ec:decide (c<0)<;>simp(disch:=first|exact Dq|fail)only[go_sem,mdR,eo,ea,eb,ec]<;>simp
 ·have e:mdQ P C=P/C:=by unfold mdQ;grind
  rw[e]at yes no;by_cases hq2:4611686018427387904<P/C;·rw[no hq2];simp(disch:=first|exact Dq|fail)only[go_sem,mdR,eo]
  ·rw[yes (by omega)];cases ea:decide (a<0)<;>cases eb:decide (b<0)<;>cases ec:decide (c<0)<;>simp(disch:=first|exact Dq|fail)only[go_sem,mdR,eo,ea,eb,ec]<;>simp
theorem LI{l:List Val}{i:Nat}(h:i<l.length):knL (l.take (i+1))=if knV (l.getD i (false,0))=true then knL (l.take i)++[l.getD i (false,0)]else knL (l.take i):=by rw[py (false,0) h];unfold knL;grind
theorem wH(l:List Val):(knL l).length<=l.length:=List.length_filter_le _ _
theorem uK(l:List Val)(i:Nat):(knL (l.take i)).length<=i:=by have :=wH (l.take i);grind
theorem Aj{kk:SK}(l:List Val)(m:l.length<1000000000)(Q:Out->Prop):∀(k i:Nat)(T:Heap),i+k=l.length->(∀T,Q (.nrm,[(3,.own 0 (knL l).length)],.row false 2 (vpv (knL l))::T))->Wp Γ lT [(3,.own 0 (knL (l.take i)).length),(6,.p (.sl kk 2 (vpv l))),(7,.p (.int .i64 (l.length:Int))),(8,.p (.int .i64 (i:Int)))] (.row false 2 (vpv (knL (l.take i)))::T) (aW [3] 0 Q):=by intro k;induction k with
 |zero=>
  intro i T hi d;obtain rfl:i=l.length:=by omega
  rw[aa (L:=lT) rfl];simp(disch:=first|exact Dq|fail)only[go_sem];grind|succ k j=>
  intro i T hi d;have g:=uK l i;have e:=LI (l:=l) (i:=i) (by omega);rw[aa (L:=lT) rfl];simp(disch:=first|exact Dq|fail)only[go_sem,valP];generalize h:l.getD i (false,0)=x at e⊢;let⟨b,n⟩:=x;cases b;·have a:knV (false,n)=false:=rfl;rw[a,if_neg (by simp)]at e;simp(disch:=first|exact Dq|fail)only[go_sem];grind
  ·cases c:isV (true,n)
   ·have a:knV (true,n)=false:=by simp[knV,c]
    rw[a,if_neg (by simp)]at e;simp(disch:=first|exact Dq|fail)only[go_sem,c];grind
   ·have a:knV (true,n)=true:=by simp[knV,c]
    rw[a,if_pos rfl]at e;simp(disch:=first|exact Dq|fail)only[go_sem,c];grind
@[go_sem]theorem Gi{kk:SK}(l:List Val)(a:l.length<1000000000):res Γ 140 [.sl kk 2 (vpv l)]=some [.sl .any 2 (vpv (knL l))]:=by refine ae (fn:=sV) rfl rfl ?_;simp(disch:=first|exact Dq|fail)only[go_sem,sV];refine Aj l a _ l.length 0 [] (by omega) (λT=>?_);simp(disch:=first|exact Dq|fail)only[go_sem]
theorem AB{kk:SK}(l:List Val)(c:l.length<1000000000)(Q:Out->Prop):∀(k i:Nat),i+k=l.length->(Q (.nrm,[(3,.own 0 (knL l).length)],[.row false 2 (vpv (knL l))]))->Wp Γ mS [(0,.p (.sl kk 2 (vpv l))),(3,.own 0 (knL (l.take i)).length),(4,.p (.int .i64 (i:Int)))] [.row false 2 (vpv (knL (l.take i)))] (aW [3] 0 Q):=by intro k;induction k with
 |zero=>
  intro i hi b;obtain rfl:i=l.length:=by omega
  rw[aa (L:=mS) rfl];simp(disch:=first|exact Dq|fail)only[go_sem];grind|succ k f=>
  intro i hi b;have g:=uK l i;have e:=LI (l:=l) (i:=i) (by omega);rw[aa (L:=mS) rfl];simp(disch:=first|exact Dq|fail)only[go_sem,valP];cases a:knV (l.getD i (false,0));·rw[a,if_neg (by simp)]at e;simp(disch:=first|exact Dq|fail)only[go_sem];grind
  ·rw[a,if_pos rfl]at e;simp(disch:=first|exact Dq|fail)only[go_sem,valP];rw[<-e,show(knL (l.take i)).length+1=(knL (l.take (i+1))).length by grind];grind
@[go_sem]theorem JO{kk:SK}(l:List Val)(a:l.length<1000000000):res Γ 131 [.sl kk 2 (vpv l)]=some [.sl .any 2 (vpv (knL l))]:=by refine ae (fn:=wt) rfl rfl ?_;simp(disch:=first|exact Dq|fail)only[go_sem,wt];refine AB l a _ l.length 0 (by omega) ?_;simp(disch:=first|exact Dq|fail)only[go_sem]
def addT(l:List Val)(i:Nat):Val:=addV (l.take i)
theorem Eq{l:List Val}{i:Nat}(h:i<l.length):addT l (i+1)=sumV (addT l i) (l.getD i (false,0)):=by unfold addT addV;rw[py (false,0) h,List.foldl_append];rfl
theorem Ag{kk:SK}(l:List Val)(h:l.length<1000000000)(B:Blk)(f:∃a b,B=.box [.p a,.p b])(Q:Out->Prop):∀(k i:Nat)(T:Heap),i+k=l.length->(∀T,Q (.nrm,[(2,.bx 0 0),(3,.bx 1 0)],B::.box [.p (.bool (addV l).1),.p (.int .i64 (addV l).2)]::T))->Wp Γ lB [(2,.bx 0 0),(3,.bx 1 0),(7,.p (.sl kk 2 (vpv l))),(8,.p (.int .i64 (l.length:Int))),(9,.p (.int .i64 (i:Int)))] (B::.box [.p (.bool (addT l i).1),.p (.int .i64 (addT l i).2)]::T) (aW [2,3] 0 Q):=by obtain⟨a,b,rfl⟩:=f;intro k;induction k with
 |zero=>
  intro i T hi c;obtain rfl:i=l.length:=by omega
  rw[aa (L:=lB) rfl];simp(disch:=first|exact Dq|fail)only[go_sem];have :=c [];rw[show addV l=addT l l.length by rw[addT,List.take_length]]at this;grind|succ k j=>intro i T hi c;have e:=Eq (l:=l) (i:=i) (by omega);rw[aa (L:=lB) rfl];simp(disch:=first|exact Dq|fail)only[go_sem,valP];grind
@[go_sem]theorem res_fixedAdd{kk:SK}(l:List Val)(b:l.length<1000000000):res Γ 136 [.sl kk 2 (vpv l)]=some [.agg [.bool (addV l).1,.int .i64 (addV l).2]]:=by refine ae (fn:=rU) rfl rfl ?_;simp(disch:=first|exact Dq|fail)only[go_sem,rU];refine Ag l b _ ⟨_,_,rfl⟩ _ l.length 0 [] (by omega) (λT=>?_);simp(disch:=first|exact Dq|fail)only[go_sem]
theorem FP{kk:SK}(l:List Val)(h:l.length<1000000000)(B:Blk)(d:∃a b,B=.box [.p a,.p b])(Q:Out->Prop):∀(k i:Nat),i+k=l.length->(Q (.nrm,[(2,.bx 0 0),(3,.bx 1 0)],[B,.box [.p (.bool (addV l).1),.p (.int .i64 (addV l).2)]]))->Wp Γ sA [(0,.p (.sl kk 2 (vpv l))),(2,.bx 0 0),(3,.bx 1 0),(4,.p (.int .i64 (i:Int)))] [B,.box [.p (.bool (addT l i).1),.p (.int .i64 (addT l i).2)]] (aW [2,3] 0 Q):=by obtain⟨a,b,rfl⟩:=d;intro k;induction k with
 |zero=>
  intro i hi c;obtain rfl:i=l.length:=by omega
  rw[aa (L:=sA) rfl];simp(disch:=first|exact Dq|fail)only[go_sem];rw[show addV l=addT l l.length by rw[addT,List.take_length]]at c;grind|succ k g=>intro i hi c;have e:=Eq (l:=l) (i:=i) (by omega);rw[aa (L:=sA) rfl];simp(disch:=first|exact Dq|fail)only[go_sem,valP];grind
@[go_sem]theorem res_r1Add{kk:SK}(l:List Val)(b:l.length<1000000000):res Γ 128 [.sl kk 2 (vpv l)]=some [.agg [.bool (addV l).1,.int .i64 (addV l).2]]:=by refine ae (fn:=LF) rfl rfl ?_;simp(disch:=first|exact Dq|fail)only[go_sem,LF];refine FP l b _ ⟨_,_,rfl⟩ _ l.length 0 (by omega) ?_;simp(disch:=first|exact Dq|fail)only[go_sem]
theorem wy{kind:Int}{l:List Val}(h:knL l=[]):aggV kind l=(false,0):=by unfold aggV;rw[h];rfl
def je(kind:Int)(b:Val)(l:List Val):Val:=l.foldl (λb v=>if(kind=4/\b.2<v.2)\/(kind=5/\v.2<b.2)then v else b) b
theorem BH{kind:Int}{b:Val}{l:List Val}{i:Nat}(h:i<l.length):je kind b (l.take (i+1))=if(kind=4/\(je kind b (l.take i)).2<(l.getD i (false,0)).2)\/(kind=5/\(l.getD i (false,0)).2<(je kind b (l.take i)).2)then l.getD i (false,0)else je kind b (l.take i):=by unfold je;rw[py (false,0) h,List.foldl_append];rfl
theorem bestV_4(b:Val)(l:List Val):je 4 b l=maxV b l:=by unfold je maxV;simp
theorem bestV_5(b:Val)(l:List Val):je 5 b l=minV b l:=by unfold je minV;simp
theorem Jy{kind:Int}{b:Val}(a:knV b=true):∀{l:List Val},(∀v∈l,knV v=true)->knV (je kind b l)=true:=by intro l;induction l generalizing b with|nil=>exactλ_=>a|cons x l d=>
  intro h;unfold je at*;rw[List.foldl_cons];split;·grind
  grind
theorem xo{kk:SK}(kind:Int)(b:Val)(l:List Val)(h:l.length<1000000000)(B:Blk)(Q:Out->Prop):∀(k i:Nat),i+k=l.length->(Q (.nrm,[(0,.p (.int .i64 kind)),(4,.bx 0 0),(5,.p (.sl kk 2 (vpv (b::l)))),(6,.bx 1 0)],[B,.box [.p (.bool (je kind b l).1),.p (.int .i64 (je kind b l).2)]]))->Wp Γ vO [(0,.p (.int .i64 kind)),(4,.bx 0 0),(5,.p (.sl kk 2 (vpv (b::l)))),(6,.bx 1 0),(7,.p (.int .i64 ((i+1:Nat):Int)))] [B,.box [.p (.bool (je kind b (l.take i)).1),.p (.int .i64 (je kind b (l.take i)).2)]] (aW [0,4,5,6] 0 Q):=by intro k;induction k with
 |zero=>
  intro i hi d;obtain rfl:i=l.length:=by omega
  rw[aa (L:=vO) rfl];simp(disch:=first|exact Dq|fail)only[go_sem];grind|succ k a=>
  intro i hi d;have e:=BH (kind:=kind) (b:=b) (l:=l) (i:=i) (by omega);have a:=a (i+1) (by omega) d;rw[e]at a;rw[aa (L:=vO) rfl];by_cases g:kind=4
  ·by_cases c:(je kind b (l.take i)).2<(l.getD i (false,0)).2;·rw[if_pos (.inl ⟨g,c⟩)]at a;simp(disch:=first|exact Dq|fail)only[go_sem,valP];grind
   ·rw[if_neg (by grind)]at a;simp(disch:=first|exact Dq|fail)only[go_sem,valP];grind
  ·by_cases f:kind=5
   ·by_cases c:(l.getD i (false,0)).2<(je kind b (l.take i)).2;·rw[if_pos (.inr ⟨f,c⟩)]at a;simp(disch:=first|exact Dq|fail)only[go_sem,valP];grind
    ·rw[if_neg (by grind)]at a;simp(disch:=first|exact Dq|fail)only[go_sem,valP];grind
   ·rw[if_neg (by grind)]at a;simp(disch:=first|exact Dq|fail)only[go_sem];grind
theorem EL{l:List Val}{b:Val}{k:List Val}(h:knL l=b::k):aggV 2 l=addV (b::k)/\aggV 4 l=je 4 b k/\aggV 5 l=je 5 b k:=by
 refine⟨?_,?_,?_⟩;·unfold aggV;grind
 ·unfold aggV;rw[h,bestV_4];rfl
 ·unfold aggV;rw[h,bestV_5];rfl
theorem res_r6Of{kk:SK}(kind:Int)(a:kind=2\/kind=4\/kind=5)(l:List Val)(j:l.length<1000000000):res Γ 122 [.int .i64 kind,.sl kk 2 (vpv l)]=some [.agg [.bool (aggV kind l).1,.int .i64 (aggV kind l).2]]:=by have e:=wH l;refine ae (fn:=Nt) rfl rfl ?_;simp(disch:=first|exact Dq|fail)only[go_sem,Nt];cases h:knL l with|nil=>simp(disch:=first|exact Dq|fail)only[go_sem,wy h]|cons b k=>
  let⟨i,f,g⟩:=EL h;rw[h]at e;simp[]at e;repeat'(first|(simp(disch:=first|exact Dq|fail)only[go_sem,valP])|refine aP (λd=>?_) (λd=>?_)|refine cM (λd=>?_) (λd=>?_)|refine cK (λd=>?_) (λd=>?_))
  ·refine xo kind b k (by omega) _ _ k.length 0 (by omega) ?_;rcases a with rfl|rfl|rfl;·simp(disch:=first|exact Dq|fail)only[go_sem,i]
   ·simp(disch:=first|exact Dq|fail)only[go_sem,f]
   ·simp(disch:=first|exact Dq|fail)only[go_sem,g]
  all_goals trace_state
theorem Gn{kk:SK}(l:List Val)(b:Val)(n:knV b=true)(g:∀v∈l,knV v=true)(r:l.length<1000000000)(B:Blk)(j:∃a b,B=.box [.p a,.p b])(Q:Out->Prop):∀(k i:Nat)(T:Heap),i+k=l.length->(∀T,Q (.nrm,[(4,.bx 0 0),(6,.bx 1 0)],B::.box [.p (.bool (je 4 b l).1),.p (.int .i64 (je 4 b l).2)]::T))->Wp Γ rZ [(4,.bx 0 0),(6,.bx 1 0),(43,.p (.sl kk 2 (vpv l))),(44,.p (.int .i64 (l.length:Int))),(45,.p (.int .i64 (i:Int)))] (B::.box [.p (.bool (je 4 b (l.take i)).1),.p (.int .i64 (je 4 b (l.take i)).2)]::T) (aW [4,6] 1 Q):=by obtain⟨u,s,rfl⟩:=j;intro k;induction k with
 |zero=>
  intro i T hi f;obtain rfl:i=l.length:=by omega
  rw[aa (L:=rZ) rfl];simp(disch:=first|exact Dq|fail)only[go_sem];grind|succ k c=>
  intro i T hi f;have e:=BH (kind:=4) (b:=b) (l:=l) (i:=i) (by omega);have m:=Jy (kind:=4) n (l:=l.take i) λv h=>g v (List.mem_of_mem_take h);have o:knV (l.getD i (false,0))=true:=g _ (by grind);have q:Nb (je 4 b (l.take i)) (l.getD i (false,0))=decide ((je 4 b (l.take i)).2<(l.getD i (false,0)).2):=by simp only[Nb,m,o,Bool.true_and]
  have c:=λT=>c (i+1) T (by omega) f;rw[e]at c;rw[aa (L:=rZ) rfl];simp(disch:=first|exact Dq|fail)only[go_sem,valP,q];refine aP (λd=>?_) (λd=>?_);·rw[if_pos (.inl ⟨rfl,d⟩)]at c;simp(disch:=first|exact Dq|fail)only[go_sem];grind
  ·rw[if_neg (by grind)]at c;simp(disch:=first|exact Dq|fail)only[go_sem];grind
theorem Js(b:Val)(l:List Val):je 4 b (b::l)=je 4 b l:=by unfold je;simp
theorem OL{kk:SK}(l:List Val)(g:l.length<1000000000):res Γ 132 [.int .i64 4,.sl kk 2 (vpv l)]=some [.agg [.bool (aggV 4 l).1,.int .i64 (aggV 4 l).2]]:=by have c:=wH l;have a:=λv=>@knL_mem l v;refine ae (fn:=Bq) rfl rfl ?_;simp(disch:=first|exact Dq|fail)only[go_sem,Bq];cases h:knL l with|nil=>simp(disch:=first|exact Dq|fail)only[go_sem,wy h]|cons b k=>let⟨i,d,e⟩:=EL h;rw[h]at c a;simp[]at c;simp(disch:=first|exact Dq|fail)only[go_sem,valP];refine Gn (b::k) b (a b (by simp)) a (by grind) _ ⟨_,_,rfl⟩ _ (b::k).length 0 [] (by omega) (λT=>?_);simp(disch:=first|exact Dq|fail)only[go_sem,d,Js]
def sizeS(s:Ser):Prop:=s.name.length<=4096/\0<=s.start/\s.start<=4294967295/\1<=s.step/\s.step<=1099511627776/\s.vals.length<=131072/\0<=s.cons/\s.cons<=5
instance{s:Ser}:Decidable (sizeS s):=by unfold sizeS;infer_instance
theorem KY{a b:Val}(h:knV a=false):divV a b=(false,0):=by unfold divV;rw[if_neg (by grind)];rfl
theorem Mv{a b:Val}(h:knV b=false):divV a b=(false,0):=by unfold divV;rw[if_neg (by grind)];rfl
theorem LE{a b:Val}(h:knV a=true)(c:knV b=true):divV a b=valV (mdV a.2 1000000 b.2):=by unfold divV;grind
theorem SR{n:Int}:res Γ 145 [.int .i64 n,.bool false]=some [.agg [.bool false,.int .i64 0]]:=by refine ae (fn:=mM) rfl rfl ?_;simp(disch:=first|exact Dq|fail)only[go_sem,mM]
theorem Oa{n:Int}:res Γ 145 [.int .i64 n,.bool true]=some [.agg [.bool (ofV n).1,.int .i64 (ofV n).2]]:=by refine ae (fn:=mM) rfl rfl ?_;simp(disch:=first|exact Dq|fail)only[go_sem,mM]
theorem Gf(b:Bool)(n:Int)(c:Bool)(m:Int):res Γ 138 [.agg [.bool b,.int .i64 n],.agg [.bool c,.int .i64 m]]=some [.agg [.bool (divV (b,n) (c,m)).1,.int .i64 (divV (b,n) (c,m)).2]]:=by
 refine ae (fn:=kQ) rfl rfl ?_;cases h:knV (b,n);·simp(disch:=first|exact Dq|fail)only[go_sem,kQ,h,KY h]
 ·cases d:knV (c,m);·simp(disch:=first|exact Dq|fail)only[go_sem,kQ,h,d,Mv d]
  ·let⟨_,l,k⟩:=lJ h;let⟨_,g,i⟩:=lJ d;have e:=zX (a:=n) (b:=1000000) (c:=m) (by omega) (by simp) (by omega);rw[LE h d];cases f:mdV n 1000000 m with
   |none=>rw[f]at e;simp[mdR]at e;simp(disch:=first|exact Dq|fail)only[go_sem,kQ,h,d,e,SR,valV,noV]|some q=>rw[f]at e;simp[mdR]at e;simp(disch:=first|exact Dq|fail)only[go_sem,kQ,h,d,e,Oa,valV]
theorem TB(b:Bool)(n:Int)(c:Bool)(m:Int):res Γ 130 [.agg [.bool b,.int .i64 n],.agg [.bool c,.int .i64 m]]=some [.agg [.bool (divV (b,n) (c,m)).1,.int .i64 (divV (b,n) (c,m)).2]]:=by
 refine ae (fn:=zT) rfl rfl ?_;cases h:knV (b,n);·simp(disch:=first|exact Dq|fail)only[go_sem,zT,h,KY h,Bool.false_and]
 ·cases d:knV (c,m);·simp(disch:=first|exact Dq|fail)only[go_sem,zT,h,d,Mv d,Bool.and_false]
  ·let⟨_,k,g⟩:=lJ h;let⟨_,j,i⟩:=lJ d;have e:=Fj (a:=n) (b:=1000000) (c:=m) (by omega) (by simp) (by omega);rw[LE h d];cases f:mdV n 1000000 m with
   |none=>rw[f]at e;simp[mdR]at e;simp(disch:=first|exact Dq|fail)only[go_sem,zT,h,d,e,valV,noV,Bool.and_true]|some q=>rw[f]at e;simp[mdR]at e;simp(disch:=first|exact Dq|fail)only[go_sem,zT,h,d,e,valV,Bool.and_true]
theorem Ei(x y:Val):res Γ 138 [.agg [.bool x.1,.int .i64 x.2],.agg [.bool y.1,.int .i64 y.2]]=some [.agg [.bool (divV x y).1,.int .i64 (divV x y).2]]:=by let⟨b,n⟩:=x;let⟨c,m⟩:=y;exact Gf b n c m
theorem NP(x y:Val):res Γ 130 [.agg [.bool x.1,.int .i64 x.2],.agg [.bool y.1,.int .i64 y.2]]=some [.agg [.bool (divV x y).1,.int .i64 (divV x y).2]]:=by let⟨b,n⟩:=x;let⟨c,m⟩:=y;exact TB b n c m
theorem Bn{n:Int}(h:0<=n/\n<=1000000000):intV n=(true,n*1000000):=by unfold intV maxN;grind
theorem Fw{n:Int}(h:0<=n/\n<=1000000000):res Γ 137 [.int .i64 n]=some [.agg [.bool (intV n).1,.int .i64 (intV n).2]]:=by rw[Bn h];refine ae (fn:=su) rfl rfl ?_;simp(disch:=first|exact Dq|fail)only[go_sem,su,Md]
theorem Qw{n:Int}(h:0<=n/\n<=1000000000):res Γ 129 [.int .i64 n]=some [.agg [.bool (intV n).1,.int .i64 (intV n).2]]:=by rw[Bn h];refine ae (fn:=KJ) rfl rfl ?_;simp(disch:=first|exact Dq|fail)only[go_sem,KJ,Md]
theorem Fd{l:List Val}{b:Val}{k:List Val}(h:knL l=b::k):aggV 1 l=divV (addV (b::k)) (intV ((b::k).length:Nat)):=by unfold aggV;grind
theorem Nh{kk:SK}(l:List Val)(g:l.length<1000000000):res Γ 132 [.int .i64 1,.sl kk 2 (vpv l)]=some [.agg [.bool (aggV 1 l).1,.int .i64 (aggV 1 l).2]]:=by have c:=wH l;refine ae (fn:=Bq) rfl rfl ?_;simp(disch:=first|exact Dq|fail)only[go_sem,Bq];cases h:knL l with|nil=>simp(disch:=first|exact Dq|fail)only[go_sem,wy h]|cons b k=>have e:=Fd h;rw[h]at c;have a:=Fw (n:=((b::k).length:Nat)) (by grind);have d:=Ei (addV (b::k)) (intV ((b::k).length:Nat));simp only[List.length_cons]at c e a d;simp(disch:=first|exact Dq|fail)only[go_sem,e,valP,a,d]
theorem Tf{kk:SK}(l:List Val)(f:l.length<1000000000):res Γ 122 [.int .i64 1,.sl kk 2 (vpv l)]=some [.agg [.bool (aggV 1 l).1,.int .i64 (aggV 1 l).2]]:=by have d:=wH l;refine ae (fn:=Nt) rfl rfl ?_;simp(disch:=first|exact Dq|fail)only[go_sem,Nt];cases h:knL l with|nil=>simp(disch:=first|exact Dq|fail)only[go_sem,wy h]|cons b k=>have e:=Fd h;rw[h]at d;have c:=Qw (n:=((b::k).length:Nat)) (by grind);have a:=NP (addV (b::k)) (intV ((b::k).length:Nat));simp only[List.length_cons]at d e c a;simp(disch:=first|exact Dq|fail)only[go_sem,valP];refine xo 1 b k (by omega) _ _ k.length 0 (by omega) ?_;simp(disch:=first|exact Dq|fail)only[go_sem,e,c,a]
end Ab
namespace Ab
open Go (IntKind BinOp UnOp)
def RunR(Γ:Ctx)(f:Nat)(ps rs:List PV):Prop:=∃n r,callOf Γ (ev Γ n) f (ps.map .p) []=some r/\r.1.all (frR r.2)=true/\mapO (aI r.2 4) r.1=some rs
theorem RunR_det{Γ:Ctx}{f:Nat}{ps rs b:List PV}(h:RunR Γ f ps rs)(e:RunR Γ f ps b):rs=b:=by let⟨n,r,d,_,l⟩:=h;let⟨m,g,c,_,j⟩:=e;have i:=js (Nat.le_max_left n m) _ _ _ _ d;have k:=js (Nat.le_max_right n m) _ _ _ _ c;grind
open Classical in
noncomputable def resR(Γ:Ctx)(f:Nat)(ps:List PV):Option (List PV):=if h:∃rs,RunR Γ f ps rs then some h.choose else none
theorem SD{Γ f ps rs}(h:RunR Γ f ps rs):resR Γ f ps=some rs:=by have a:∃rs,RunR Γ f ps rs:=⟨_,h⟩;unfold resR;rw[dif_pos a];exact congrArg some (RunR_det a.choose_spec h)
theorem of_resR{Γ f ps rs}(h:resR Γ f ps=some rs):RunR Γ f ps rs:=by
 unfold resR at h;split at h;all_goals grind
noncomputable def crR(Γ:Ctx)(H:Heap)(f:AV)(args:List AV):Option (List PV):=(callee f).bind λfc=>(mapO (aI H 4) (args++fc.2)).bind (resR Γ fc.1)
section


variable{Γ:Ctx}{env:Env}{H:Heap}{live:List Nat}{Q:Out->Prop}{r:List St}{dst:Option Nat}
theorem L_callr{f args}:WpL Γ (⟨dst,none,.inl (.callr f args)⟩::r) env H live Q↔opK Γ ((crR Γ H (Arg.ev Γ (look env) f) (args.map (Arg.ev Γ (look env)))).map λrs=>results (rs.map .p)) dst r env H live Q:=by
 rw[L_of];unfold opK WpO;constructor;·rintro⟨n,h⟩;dsimp only at h;rw[db]at h⊢;let⟨v,e,k⟩:=h;simp only[evQ,]at e;obtain⟨rs,a,rfl⟩:=Option.map_eq_some_iff.1 e;let⟨s,m,a⟩:=Option.bind_eq_some_iff.1 a;let⟨ps,o,a⟩:=Option.bind_eq_some_iff.1 a;let⟨q,g,a⟩:=Option.bind_eq_some_iff.1 a;let⟨i,l⟩:=ifB_some.1 a;exact⟨_,by simp[crR,m,o,SD ⟨n,q,g,i,l⟩,],k⟩
 ·intro h;rw[db]at h;let⟨v,e,k⟩:=h;obtain⟨rs,a,rfl⟩:=Option.map_eq_some_iff.1 e;simp[crR]at a;let⟨s,m,a⟩:=Option.bind_eq_some_iff.1 a;let⟨ps,o,a⟩:=Option.bind_eq_some_iff.1 a;let⟨n,q,g,i,l⟩:=of_resR a;refine⟨n,?_⟩;simp[evQ,uA,m,o,g,i,l,];exact k
theorem L_mkt{sz ag zero n c}:WpL Γ (⟨dst,none,.inl (.mkt sz ag zero n c)⟩::r) env H live Q↔opK Γ (mktA sz ag zero (Arg.ev Γ (look env) n) (Arg.ev Γ (look env) c)) dst r env H live Q:=L_of.trans (iz rfl)
theorem Tr{sz ag zero k b n}(a:0<n)(d:n<=1073741824):mktA sz ag zero (.p (.int k n)) (.p (.int b n))=some (.p (.sl .any sz (List.replicate n.toNat (if ag then .agg zero else zero.headD .nilp)))):=by simp only[mktA];rw[if_pos ⟨by omega,trivial,by unfold lim;omega,a⟩]
end
attribute[go_sem]L_callr L_mkt crR
theorem LD{Γ:Ctx}{f:Nat}{ps rs:List PV}(n:Nat)(h:((callOf Γ (ev Γ n) f (ps.map .p) []).bind λr=>ifB (r.1.all (frR r.2)) (mapO (aI r.2 4) r.1))=some rs):resR Γ f ps=some rs:=by let⟨r,c,d⟩:=Option.bind_eq_some_iff.1 h;let⟨b,a⟩:=ifB_some.1 d;exact SD ⟨n,r,c,b,a⟩
theorem dA{Γ:Ctx}{f:Nat}{ps rs:List PV}(n:Nat)(h:((callOf Γ (ev Γ n) f (ps.map .p) []).bind λr=>mapO (aI r.2 4) r.1)=some rs):res Γ f ps=some rs:=by let⟨r,b,a⟩:=Option.bind_eq_some_iff.1 h;exact nM ⟨n,r,b,a⟩
end Ab
namespace Ab
open Go (IntKind)
def shB(k:IntKind)(n:Nat)(x:Int):Int:=k.wrap (x*2^n)
def orB(k:IntKind)(x y:Int):Int:=k.wrap ((BitVec.ofInt k.bits x|||BitVec.ofInt k.bits y).toNat:Int)
def cvB(k:IntKind)(b:UInt8):Int:=k.wrap (b.toNat:Int)
def upB(x:Int)(b:UInt8):Int:=orB .u64 (shB .u64 8 x) (cvB .u64 b)
theorem GD{k:SK}(a b c d e f g h i j m l:UInt8):res Γ 500 [.sl k 1 (ao [a,b,c,d,e,f,g,h,i,j,m,l])]=some [.agg [.int .i64 (IntKind.i64.wrap ([a,b,c,d].foldl upB 0)),.int .i64 (IntKind.i64.wrap ([e,f,g,h,i,j,m,l].foldl upB 0))],.bool true]:=dA 200 (by cases k<;>kernel_rfl)
def f4B(a b c d:UInt8):Int:=orB .i64 (orB .i64 (orB .i64 (shB .i64 24 (cvB .i64 a)) (shB .i64 16 (cvB .i64 b))) (shB .i64 8 (cvB .i64 c))) (cvB .i64 d)
def cl32(t:Int):Int:=if(0:Int)<(if(4294967295:Int)<t then 4294967295 else t)then(if(4294967295:Int)<t then 4294967295 else t)else 0
def sr(x:Int)(n:Nat):Int:=x.fdiv (2^n)
def b8(x:Int):PV:=.int .u8 (IntKind.u8.wrap x)
def be8(x:Int):List PV:=[b8 (sr x 56),b8 (sr x 48),b8 (sr x 40),b8 (sr x 32),b8 (sr x 24),b8 (sr x 16),b8 (sr x 8),b8 (sr x 0)]
def be4(x:Int):List PV:=[b8 (sr x 24),b8 (sr x 16),b8 (sr x 8),b8 (sr x 0)]
def four(x:Int):List PV:=[b8 (sr x 24),b8 (sr x 16),b8 (sr x 8),b8 x]
theorem En(t n:Int):res Γ 540 [.agg [.int .i64 t,.int .i64 n]]=some [.sl .tight 1 [.sl .any 1 (ao [0,0,0,0]),.sl .any 1 (be8 (IntKind.u64.wrap n)),.sl .any 1 (be4 (IntKind.u64.wrap (cl32 t)))]]:=dA 200 (by kernel_rfl)
def lo32(u:Int):Int:=IntKind.u64.wrap ((BitVec.ofInt 64 u&&&BitVec.ofInt 64 4294967295).toNat:Int)
theorem DN(t n:Int):res Γ 615 [.agg [.int .i64 t,.int .i64 n]]=some [.sl .tight 1 [.sl .tight 1 (ao [0,0,0,0]),.sl .any 1 (four (IntKind.i64.wrap (sr (IntKind.u64.wrap n) 32))++four (IntKind.i64.wrap (lo32 (IntKind.u64.wrap n)))),.sl .any 1 (four (cl32 t))]]:=dA 200 (by kernel_rfl)
end Ab
