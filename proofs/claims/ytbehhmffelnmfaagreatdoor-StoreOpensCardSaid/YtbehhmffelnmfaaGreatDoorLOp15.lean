import Derived.Test.YtbehhmffelnmfaaGreatDoorLOp2
import Derived.Test.YtbehhmffelnmfaaGreatDoorLMd
set_option linter.all false
namespace Ab
open Go (IntKind)
def beN(l:List UInt8):Nat:=l.foldl (λn b=>n*256+b.toNat) 0
def WK(k:IntKind):Prop:=k=.u64\/k=.i64
theorem zm{k:IntKind}(a:WK k){x:Nat}(h:x<9223372036854775808\/k=.u64/\x<18446744073709551616):k.wrap (x:Int)=(x:Int):=by
 rcases a with rfl|rfl;·rw[di];omega
 ·exact wrap_i64 (by omega) (by grind)
theorem EB{k:IntKind}(a:WK k)(n:Nat){x y:Nat}(b:y<2^n)(c:x*2^n+y<9223372036854775808\/k=.u64/\x*2^n+y<18446744073709551616):orB k ((x*2^n:Nat):Int) (y:Int)=((x*2^n+y:Nat):Int):=by
 have f:k.bits=64:=by rcases a with rfl|rfl<;>rfl
 have e:x*2^n|||y=x*2^n+y:=by rw[Nat.mul_comm,Nat.two_pow_add_eq_or_of_lt b]
 generalize x*2^n=z at*;have d:(BitVec.ofInt 64 (z:Int)|||BitVec.ofInt 64 (y:Int)).toNat=z+y:=by grind
 unfold orB;rw[f,d];exact zm a c
theorem Hb{k:IntKind}(a:WK k)(n:Nat){x:Nat}(b:x*2^n<9223372036854775808\/k=.u64/\x*2^n<18446744073709551616):shB k n (x:Int)=((x*2^n:Nat):Int):=by
 have e:(x:Int)*2^n=((x*2^n:Nat):Int):=by simp
 unfold shB;rw[e];exact zm a b
theorem cv_nat{k:IntKind}(c:WK k)(b:UInt8):cvB k b=(b.toNat:Int):=by have :=b.toNat_lt;exact zm c (.inl (by omega))
theorem up_nat{x:Nat}(h:x<72057594037927936)(b:UInt8):upB (x:Int) b=((x*256+b.toNat:Nat):Int):=by have c:=b.toNat_lt;unfold upB;rw[Hb (.inl rfl) 8 (.inr ⟨rfl,by omega⟩),cv_nat (.inl rfl),EB (.inl rfl) 8 (by omega) (.inr ⟨rfl,by omega⟩)]
theorem CF:∀(l:List UInt8)(x n:Nat),x<256^n->n+l.length<=8->l.foldl upB (x:Int)=((l.foldl (λn b=>n*256+b.toNat) x:Nat):Int)
 |[],_,_,_,_=>rfl|b::l,x,n,h,c=>by
  have f:=b.toNat_lt;simp[]at c;have e:256^n<=256^7:=Nat.pow_le_pow_right (by simp) (by omega);have d:x*256+b.toNat<256^(n+1):=by grind
  rw[List.foldl_cons,List.foldl_cons,up_nat (by omega)];exact CF l _ _ d (by omega)
theorem Mm:∀(l:List UInt8)(x n:Nat),x<256^n->l.foldl (λn b=>n*256+b.toNat) x<256^(n+l.length)
 |[],_,_,h=>h|b::l,x,n,h=>by
  have d:=b.toNat_lt;have a:x*256+b.toNat<256^(n+1):=by grind
  have :=Mm l _ _ a;grind
theorem beN_app(l m:List UInt8):beN (l++m)=beN l*256^m.length+beN m:=by
 have :∀(m:List UInt8)(x:Nat),m.foldl (λn b=>n*256+b.toNat) x=x*256^m.length+beN m:=by intro m;induction m with|nil=>intro x;simp[beN]|cons b m c=>intro x;have d:=c (x*256+b.toNat);have e:=c (0*256+b.toNat);simp[beN,]at d e⊢;grind
 unfold beN;grind
theorem f4_nat(a b c d:UInt8):f4B a b c d=(beN [a,b,c,d]:Int):=by have g:=a.toNat_lt;have i:=b.toNat_lt;have f:=c.toNat_lt;have h:=d.toNat_lt;have w:WK .i64:=.inr rfl;unfold f4B;simp[cv_nat w];rw[Hb w 24 (.inl (by omega)),Hb w 16 (.inl (by omega)),Hb w 8 (.inl (by omega)),EB w 24 (by omega) (.inl (by omega)),show a.toNat*2^24+b.toNat*2^16=(a.toNat*256+b.toNat)*2^16 by omega,EB w 16 (by omega) (.inl (by omega)),show(a.toNat*256+b.toNat)*2^16+c.toNat*2^8=(a.toNat*65536+b.toNat*256+c.toNat)*2^8 by omega,EB w 8 (by omega) (.inl (by omega))];simp[beN,];omega
def ptT(p:List UInt8):Int:=(beN (p.take 4):Int)
def ptV(p:List UInt8):Int:=IntKind.i64.wrap (beN (p.drop 4):Int)
theorem list12{p:List UInt8}(h:p.length=12):∃a b c d e f g h i j k l:UInt8,p=[a,b,c,d,e,f,g,h,i,j,k,l]:=by match p,h with|[a,b,c,d,e,f,g,h,i,j,k,l],_=>simp
theorem Jw{k:SK}{p:List UInt8}(h:p.length=12):res Γ 500 [.sl k 1 (ao p)]=some [.agg [.int .i64 (ptT p),.int .i64 (ptV p)],.bool true]:=by obtain⟨a,b,c,d,e,f,g,x,i,j,y,l,rfl⟩:=list12 h;have r:=Mm [a,b,c,d] 0 0 (by simp);have n:=CF [a,b,c,d] 0 0 (by simp) (by simp);have m:=CF [e,f,g,x,i,j,y,l] 0 0 (by simp) (by simp);have o:((0:Nat):Int)=0:=rfl;rw[o]at n m;rw[GD,n,m,wrap_i64 (by omega) (by grind)];rfl
theorem Dm{k:SK}(a b c d e f g h i j m l:UInt8):res Γ 645 [.sl k 1 (ao [a,b,c,d,e,f,g,h,i,j,m,l])]=some [.agg [.int .i64 (f4B a b c d),.int .i64 (IntKind.i64.wrap (orB .u64 (shB .u64 32 (IntKind.u64.wrap (f4B e f g h))) (IntKind.u64.wrap (f4B i j m l))))],.bool true]:=dA 200 (by rfl)
theorem Ez{k:SK}{p:List UInt8}(h:p.length=12):res Γ 645 [.sl k 1 (ao p)]=some [.agg [.int .i64 (ptT p),.int .i64 (ptV p)],.bool true]:=by
 obtain⟨a,b,c,d,e,f,g,x,i,j,y,l,rfl⟩:=list12 h;have t:=Mm [e,f,g,x] 0 0 (by simp);have r:=Mm [i,j,y,l] 0 0 (by simp);have s:=beN_app [e,f,g,x] [i,j,y,l];have w:WK .u64:=.inl rfl;have o:beN [e,f,g,x]<4294967296:=Nat.lt_of_lt_of_le t (by simp);have n:beN [i,j,y,l]<4294967296:=Nat.lt_of_lt_of_le r (by simp);have q:beN [e,f,g,x,i,j,y,l]=beN [e,f,g,x]*2^32+beN [i,j,y,l]:=s.trans (by simp);rw[Dm];simp only[f4_nat];have m:∀B C:Nat,B<4294967296->C<4294967296->orB .u64 (shB .u64 32 (IntKind.u64.wrap (B:Int))) (IntKind.u64.wrap (C:Int))=((B*2^32+C:Nat):Int):=λB C o n=>by rw[zm (x:=B) w (.inl (by omega)),zm (x:=C) w (.inl (by omega)),Hb w 32 (.inr ⟨rfl,by omega⟩),EB w 32 (by omega) (.inr ⟨rfl,by omega⟩)]
 rw[m _ _ o n,<-q];rfl
def byI(z:Int):UInt8:=UInt8.ofNat (z%256).toNat
theorem wrap_u8m(x:Int):IntKind.u8.wrap x=x%256:=by rfl
theorem b8_eq(z:Int):b8 z=.int .u8 ((byI z).toNat:Int):=by unfold b8 byI;rw[wrap_u8m];congr 1;simp[];omega
def enT(t:Int):List UInt8:=[byI (t/2^24),byI (t/2^16),byI (t/2^8),byI t]
def uN(n:Int):Int:=n%18446744073709551616
def enV(n:Int):List UInt8:=enT (uN n/2^32)++enT (uN n%2^32)
theorem xC(t:Int):(enT t).length=4:=rfl
theorem Am(n:Int):(enV n).length=8:=rfl
theorem LO(x:Int)(n:Nat):sr x n=x/2^n:=Int.fdiv_eq_ediv_of_nonneg _ (Int.pow_nonneg (by simp))
theorem Jh(t:Int):four t=ao (enT t):=by simp[four,LO,b8_eq,enT,ao,]
theorem be4_eq(t:Int):be4 t=ao (enT t):=by simp[be4,LO,b8_eq,enT,ao,]
theorem Ao{x y:Int}(h:x%256=y%256):byI x=byI y:=by unfold byI;rw[h]
theorem lo_eq{u:Int}(h:0<=u/\u<18446744073709551616):lo32 u=u%2^32:=by
 obtain⟨n,rfl⟩:∃n:Nat,u=n:=⟨u.toNat,by omega⟩;have b:(BitVec.ofInt 64 (n:Int)&&&BitVec.ofInt 64 4294967295).toNat=n%2^32:=by rw[BitVec.toNat_and,BitVec.ofInt_natCast,BitVec.toNat_ofNat,Nat.mod_eq_of_lt (by omega)];exact Nat.and_two_pow_sub_one_eq_mod n 32
 unfold lo32;rw[b,di];omega
theorem HI{t n:Int}(h:0<=t/\t<=4294967295):res Γ 540 [.agg [.int .i64 t,.int .i64 n]]=some [.sl .tight 1 [.sl .any 1 (ao [0,0,0,0]),.sl .any 1 (ao (enV n)),.sl .any 1 (ao (enT t))]]:=by
 have b:IntKind.u64.wrap (cl32 t)=t:=by rw[di];unfold cl32;grind
 have a:be8 (IntKind.u64.wrap n)=ao (enV n):=by rw[di];change _=ao (enT (n%18446744073709551616/2^32)++enT (n%18446744073709551616%2^32));generalize n%18446744073709551616=u at*;simp only[be8,LO,b8_eq,enT,ao,List.map_cons,List.map_nil,Int.pow_zero,Int.ediv_one,List.cons_append,List.nil_append];rw[Ao (x:=u/2^56) (y:=u/2^32/2^24) (by omega),Ao (x:=u/2^48) (y:=u/2^32/2^16) (by omega),Ao (x:=u/2^40) (y:=u/2^32/2^8) (by omega),Ao (x:=u/2^24) (y:=u%2^32/2^24) (by omega),Ao (x:=u/2^16) (y:=u%2^32/2^16) (by omega),Ao (x:=u/2^8) (y:=u%2^32/2^8) (by omega),Ao (x:=u) (y:=u%2^32) (by omega)]
 rw[En,b,a,be4_eq]
theorem Fx{t n:Int}(h:0<=t/\t<=4294967295):res Γ 615 [.agg [.int .i64 t,.int .i64 n]]=some [.sl .tight 1 [.sl .tight 1 (ao [0,0,0,0]),.sl .any 1 (ao (enV n)),.sl .any 1 (ao (enT t))]]:=by
 have b:cl32 t=t:=by unfold cl32;grind
 have c:0<=n%18446744073709551616/\n%18446744073709551616<18446744073709551616:=by omega
 have a:ao (enV n)=four (n%18446744073709551616/2^32)++four (n%18446744073709551616%2^32):=by rw[Jh,Jh,wU];rfl
 rw[DN,b,a,di,lo_eq c,LO,Jh t];generalize n%18446744073709551616=u at*;rw[wrap_i64 (by omega) (by omega),wrap_i64 (by omega) (by omega)]
def arcP(k:SK):PV:=.sl k 2 [.agg [.int .i64 1,.int .i64 60],.agg [.int .i64 10,.int .i64 60]]
def agI(κ:Bool):Int:=if κ then 4 else 1
def xfI(κ:Bool):Int:=if κ then 0 else 500000
def hdrP(κ:Bool)(k:SK):PV:=.agg [.int .i64 (agI κ),.int .i64 (xfI κ),arcP k]
def hdrB(κ:Bool):List UInt8:=[0,0,0,if κ then 4 else 1,0,0,2,88,0,if κ then 0 else 7,if κ then 0 else 161,if κ then 0 else 32,0,0,0,2,0,0,0,40,0,0,0,1,0,0,0,60,0,0,2,248,0,0,0,10,0,0,0,60]
theorem Hg{κ k}:res Γ 503 [hdrP κ k]=some [.int .i64 1480]:=dA 100 (by cases κ<;>kernel_rfl)
theorem Ew{κ k}:res Γ 490 [hdrP κ k]=some [.int .i64 600]:=dA 100 (by cases κ<;>kernel_rfl)
theorem EC{κ k}:res Γ 521 [hdrP κ k,.int .i64 0]=some [.int .i64 40]:=dA 100 (by cases κ<;>kernel_rfl)
theorem Fk{κ k}:res Γ 521 [hdrP κ k,.int .i64 1]=some [.int .i64 760]:=dA 100 (by cases κ<;>kernel_rfl)
theorem Hp{κ k}:resR Γ 513 [hdrP κ k]=some [.sl .any 1 (ao (hdrB κ)),.int .i64 0]:=LD 200 (by cases κ<;>kernel_rfl)
theorem Fe{κ k}:res Γ 594 [hdrP κ k]=some [.sl .any 1 (ao (hdrB κ)),.int .i64 0]:=dA 200 (by cases κ<;>kernel_rfl)
theorem Cd{κ k}:res Γ 592 [hdrP κ k]=some [.int .i64 1480]:=dA 100 (by cases κ<;>kernel_rfl)
theorem Bs{κ k}:res Γ 605 [hdrP κ k]=some [.int .i64 600]:=dA 100 (by cases κ<;>kernel_rfl)
theorem El{κ k}:res Γ 604 [hdrP κ k,.int .i64 0]=some [.int .i64 40]:=dA 100 (by cases κ<;>kernel_rfl)
theorem Cf{κ k}:res Γ 604 [hdrP κ k,.int .i64 1]=some [.int .i64 760]:=dA 100 (by cases κ<;>kernel_rfl)
def CA(κ:Bool)(d:List UInt8):List UInt8:=hdrB κ++d
theorem pQ{κ}:(hdrB κ).length=40:=rfl
theorem Sw{κ d}(h:d.length=1440):(CA κ d).length=1480:=by simp[CA,pQ,h]
theorem GL{κ k}(g:Nat->UInt8):resR Γ 504 [.sl k 1 (ao (CA κ ((List.range 1440).map g)))]=some [hdrP κ .any,.int .i64 0]:=LD 200 (by cases κ<;>cases k<;>kernel_rfl)
theorem DX{κ k}(g:Nat->UInt8):res Γ 609 [.sl k 1 (ao (CA κ ((List.range 1440).map g)))]=some [hdrP κ .any,.int .i64 0]:=dA 200 (by cases κ<;>cases k<;>kernel_rfl)
theorem gen_eq{d:List UInt8}{n:Nat}(h:d.length=n):(List.range n).map (λi=>d.getD i 0)=d:=by refine List.ext_getElem (by grind) λi b c=>?_;grind
theorem HK{κ k}{d:List UInt8}(h:d.length=1440):resR Γ 504 [.sl k 1 (ao (CA κ d))]=some [hdrP κ .any,.int .i64 0]:=by have :=@GL κ k (λi=>d.getD i 0);rwa[gen_eq h]at this
theorem FV{κ k}{d:List UInt8}(h:d.length=1440):res Γ 609 [.sl k 1 (ao (CA κ d))]=some [hdrP κ .any,.int .i64 0]:=by have :=@DX κ k (λi=>d.getD i 0);rwa[gen_eq h]at this
theorem wg{Γ:Ctx}{f:Nat}{a r:Nat->List PV}(n N:Nat)(h:(List.range N).map (λj=>(callOf Γ (ev Γ n) f ((a j).map .p) []).bind λr=>mapO (aI r.2 4) r.1)=(List.range N).map λj=>some (r j))(j:Nat)(b:j<N):res Γ f (a j)=some (r j):=by refine dA n ?_;simp_all
def enS(κ:Bool)(j:Nat):Bool:=decide (0<j)&&decide (xfI κ*10<=(j:Int)*1000000)
theorem OJ{κ:Bool}(j:Nat)(b:j<11):res Γ 648 [.int .i64 (xfI κ),.int .i64 (j:Int),.int .i64 10]=some [.bool (enS κ j)]:=wg (a:=λj=>[.int .i64 (xfI κ),.int .i64 (j:Int),.int .i64 10]) (r:=λj=>[.bool (enS κ j)]) 100 11 (by cases κ<;>kernel_rfl) j b
theorem Hi{κ:Bool}(j:Nat)(b:j<11):res Γ 647 [.int .i64 (xfI κ),.int .i64 (j:Int),.int .i64 10]=some [.bool (enS κ j)]:=wg (a:=λj=>[.int .i64 (xfI κ),.int .i64 (j:Int),.int .i64 10]) (r:=λj=>[.bool (enS κ j)]) 100 11 (by cases κ<;>kernel_rfl) j b
def putV(κ:Bool)(l:List Val):Val:=if enS κ (knL l).length then aggV (agI κ) l else noV
theorem res_put{κ:Bool}{k:SK}(l:List Val)(h:l.length=10):res Γ 538 [.int .i64 (agI κ),.int .i64 (xfI κ),.sl k 2 (vpv l)]=some [.agg [.bool (putV κ l).1,.int .i64 (putV κ l).2]]:=by
 have g:(knL l).length<=l.length:=List.length_filter_le _ _;have b:=@OJ κ (knL l).length (by omega);have f:res Γ 132 [.int .i64 (agI κ),.sl k 2 (vpv l)]=some [.agg [.bool (aggV (agI κ) l).1,.int .i64 (aggV (agI κ) l).2]]:=by
  cases κ;·exact Nh l (by omega)
  ·exact OL l (by omega)
 have d:(l.length:Int)=10:=by omega
 have c:=@Gi k l (by omega);unfold putV;refine ae (fn:=xJ) rfl rfl ?_;cases e:enS κ (knL l).length;·rw[e]at b;simp(disch:=first|exact Dq|fail)only[go_sem,xJ,d,c,b];rfl
 ·rw[e]at b;simp(disch:=first|exact Dq|fail)only[go_sem,xJ,d,c,b,f]
theorem Sf{κ:Bool}{k:SK}(l:List Val)(f:l.length=10):res Γ 646 [.int .i64 (agI κ),.int .i64 (xfI κ),.sl k 2 (vpv l)]=some [.agg [.bool (putV κ l).1,.int .i64 (putV κ l).2]]:=by
 have h:(knL l).length<=l.length:=List.length_filter_le _ _;have a:=@Hi κ (knL l).length (by omega);have d:res Γ 122 [.int .i64 (agI κ),.sl k 2 (vpv l)]=some [.agg [.bool (aggV (agI κ) l).1,.int .i64 (aggV (agI κ) l).2]]:=by
  cases κ;·exact Tf l (by omega)
  ·exact res_r6Of 4 (.inr (.inl rfl)) l (by omega)
 have c:(l.length:Int)=10:=by omega
 have b:=@JO k l (by omega);unfold putV;refine ae (fn:=GZ) rfl rfl ?_;cases e:enS κ (knL l).length;·rw[e]at a;simp(disch:=first|exact Dq|fail)only[go_sem,GZ,c,b,a];rfl
 ·rw[e]at a;simp(disch:=first|exact Dq|fail)only[go_sem,GZ,c,b,a,d]
def uZ(t iv:Int):Int:=t-t%iv
def stp(i:Bool):Int:=if i then 10 else 1
def ixI(i:Bool):Int:=if i then 1 else 0
def offI(i:Bool):Int:=if i then 760 else 40
def posI(i:Bool)(t:Int):Int:=offI i+12*(t/stp i%60)
def pos(i:Bool)(t:Int):Nat:=(posI i t).toNat
def al(i:Bool)(t:Int):Int:=uZ t (stp i)
def slo(B:List UInt8)(i:Bool)(t:Int):List UInt8:=(B.drop (pos i t)).take 12
def hasS(B:List UInt8)(i:Bool)(t:Int):Val:=if 1<=al i t/\ptT (slo B i (al i t))=al i t then ofV (ptV (slo B i (al i t)))else noV
def wrS(B:List UInt8)(i:Bool)(t n:Int):List UInt8:=spl B (pos i t) (enT (al i t)++enV n)
def gaL(B:List UInt8)(t:Int):List Val:=(List.range 10).map λk=>hasS B false (al true t+(k:Nat))
def gaS(κ:Bool)(B:List UInt8)(t:Int):List UInt8:=if(putV κ (gaL B t)).1=true/\1<=al true t then wrS B true t (putV κ (gaL B t)).2 else B
def fsI(t now:Int):Option Bool:=if now-t<60 then some false else if now-t<600 then some true else none
def layS(κ:Bool)(now:Int)(p:Int×Int)(B:List UInt8):Bool×List UInt8:=if p.1<1\/now<p.1\/(ofV p.2).1=false then(false,B)else match fsI p.1 now with|none=>(false,B)|some i=>if al i p.1<1 then(false,B)else if i then(true,wrS B true p.1 p.2)else(true,gaS κ (wrS B false p.1 p.2) p.1)
theorem wd{i:Bool}{t:Int}(a:0<=t):((pos i t:Nat):Int)=posI i t:=by
 have :0<=posI i t:=by unfold posI offI stp;grind
 unfold pos;omega
theorem zO{i:Bool}{t:Int}:pos i t+12<=1480:=by unfold pos posI offI stp;grind
theorem Rp{i:Bool}{t:Int}(b:0<=t):pos i (al i t)=pos i t:=by unfold pos posI al uZ stp;cases i<;>simp<;>omega
theorem gp{i:Bool}{t:Int}(h:0<=t):0<=al i t/\al i t<=t:=by unfold al uZ stp;grind
theorem al_al{i:Bool}{t:Int}:al i (al i t)=al i t:=by unfold al uZ stp;simp
theorem Iw{B:List UInt8}{i:Bool}{t:Int}(h:B.length=1480):(slo B i t).length=12:=by have :=@zO i t;simp[slo,];omega
theorem DJ{T W D d:List UInt8}{a:Nat}(h:T.length=a)(b:W.length=d.length):spl (T++(W++D)) a d=T++(d++D):=by subst h;unfold spl;grind
theorem Gy{B z x y:List UInt8}{a:Nat}(j:z.length=4)(k:x.length=8)(g:y.length=4)(h:a+12<=B.length):spl (spl (spl B a z) (a+4) x) a y=spl B a (y++x):=by
 have b:(B.take a).length=a:=by grind
 have e:B=B.take a++((B.drop a).take 4++(((B.drop a).drop 4).take 8++((B.drop a).drop 4).drop 8)):=by rw[List.take_append_drop,List.take_append_drop,List.take_append_drop]
 have i:((B.drop a).take 4).length=4:=by simp;omega
 have m:(((B.drop a).drop 4).take 8).length=8:=by simp;omega
 generalize B.take a=T,(B.drop a).take 4=c,((B.drop a).drop 4).take 8=d,((B.drop a).drop 4).drop 8=D at*;subst e;have r:∀U V E:List UInt8,T++(U++(V++E))=(T++U)++(V++E):=λU V E=>by simp
 rw[DJ b (by omega),r,DJ (by grind) (by omega),<-r,DJ b (by omega)];have f:T++(c++(d++D))=T++((c++d)++D):=by simp
 rw[f,DJ b (by grind)];simp
theorem wrS_len{B:List UInt8}{i:Bool}{t n:Int}(h:B.length=1480):(wrS B i t n).length=1480:=by
 have :=@zO i t;unfold wrS;rw[Ae];·grind
 ·rw[h];exact this
theorem Dj{B:List UInt8}{t:Int}:(gaL B t).length=10:=by rfl
theorem still506:aw Γ 506=true:=rfl
theorem still505:aw Γ 505=true:=rfl
theorem sn:aw Γ 501=true:=rfl
theorem rP:aw Γ 537=true:=rfl
theorem nW{i:Bool}{t:Int}(h:0<=t/\t<=5000000000):res Γ 160 [.int .i64 t,.int .i64 (stp i)]=some [.int .i64 (al i t)]:=by
 have a:=@gp i t h.1;unfold al uZ at a⊢;cases i<;>simp only[stp,]at a⊢;·refine ae (fn:=kE) rfl rfl ?_;simp(disch:=first|exact Dq|fail)only[go_sem,kE]
 ·refine ae (fn:=kE) rfl rfl ?_;simp(disch:=first|exact Dq|fail)only[go_sem,kE]
theorem ig{i:Bool}{t:Int}(h:0<=t/\t<=5000000000):res Γ 163 [.int .i64 t,.int .i64 (stp i)]=some [.int .i64 (al i t)]:=by
 have a:=@gp i t h.1;unfold al uZ at a⊢;cases i<;>simp only[stp,]at a⊢;·refine ae (fn:=pf) rfl rfl ?_;simp(disch:=first|exact Dq|fail)only[go_sem,pf]
 ·refine ae (fn:=pf) rfl rfl ?_;simp(disch:=first|exact Dq|fail)only[go_sem,pf]
theorem Tj{a:Int}(h:0<=a/\a<=5000000000){i:Bool}:cb .quo (.p (.int .i64 a)) (.p (.int .i64 (stp i)))=some (.p (.int .i64 (a/stp i))):=by cases i<;>exact QS h.1 (by decide) (wrap_i64 (by simp[stp];omega) (by simp[stp];omega))
theorem SV{i:Bool}{t:Int}(h:0<=t/\t<=5000000000):res Γ 522 [.agg [.int .i64 (stp i),.int .i64 60],.int .i64 t]=some [.int .i64 (t/stp i%60)]:=by
 have q:=@Tj t h i;cases i<;>simp[stp,]at q⊢;·refine ae (fn:=kJ) rfl rfl ?_;simp(disch:=first|exact Dq|fail)only[go_sem,kJ,q]
 ·refine ae (fn:=kJ) rfl rfl ?_;simp(disch:=first|exact Dq|fail)only[go_sem,kJ,q]
theorem Ii{i:Bool}{t:Int}(h:0<=t/\t<=5000000000):res Γ 620 [.agg [.int .i64 (stp i),.int .i64 60],.int .i64 t]=some [.int .i64 (t/stp i%60)]:=by
 have q:=@Tj t h i;cases i<;>simp[stp,]at q⊢;·refine ae (fn:=pz) rfl rfl ?_;simp(disch:=first|exact Dq|fail)only[go_sem,pz,q]
 ·refine ae (fn:=pz) rfl rfl ?_;simp(disch:=first|exact Dq|fail)only[go_sem,pz,q]
def fA(F:Nat)(s:List UInt8)(rb:Nat)(κ:Bool):List AV:=[.p (.int .i64 (agI κ)),.p (.int .i64 (xfI κ)),.p (arcP .any),.bx F 0,.p (.str s),.own rb 1480]
section


variable{F:Nat}{s:List UInt8}{xb rb:Nat}{κ:Bool}{H:Heap}{B:List UInt8}
theorem Mz(c:H[xb]?=some (.box (fA F s rb κ))){i:Bool}{t:Int}(h:0<=t/\t<=5000000000):resW Γ 501 [.bx xb 0,.p (.int .i64 (ixI i)),.p (.int .i64 t)] H=some ([.p (.int .i64 (posI i t))],H):=by
 have e:=@EC κ .any;have d:=@Fk κ .any;have a:=@SV i t h;have b:0<=t/stp i%60/\t/stp i%60<60:=by omega
 unfold posI offI ixI;unfold fA arcP at c;unfold hdrP arcP at e d;generalize t/stp i%60=u at*;refine ah (fn:=ej) rfl rfl ?_;cases i;·simp[stp,]at a⊢;simp(disch:=first|exact Dq|fail)only[go_sem,ej,c,e,a]
 ·simp[stp,]at a⊢;simp(disch:=first|exact Dq|fail)only[go_sem,ej,c,d,a]
def rchI(i:Bool)(t now:Int):Bool:=decide (t<=now)&&decide (now-t<stp i*60)
theorem BF(a:H[xb]?=some (.box (fA F s rb κ))){i:Bool}{t now:Int}(h:0<=t/\t<=4294967295)(d:0<=now/\now<=4294967295):resW Γ 537 [.bx xb 0,.p (.int .i64 (ixI i)),.p (.int .i64 t),.p (.int .i64 now)] H=some ([.p (.bool (rchI i t now))],H++[.box [.p (.int .i64 (stp i)),.p (.int .i64 60)]]):=by
 unfold fA arcP at a;unfold rchI ixI stp;refine ah (fn:=bM) rfl rfl ?_;cases i<;>simp[]
 ·by_cases c:t<=now;·simp(disch:=first|exact Dq|fail)only[go_sem,bM,a,dB,dR,decide_eq_true c]
  ·simp(disch:=first|exact Dq|fail)only[go_sem,bM,a,dB,dR,decide_eq_false c]
 ·by_cases c:t<=now;·simp(disch:=first|exact Dq|fail)only[go_sem,bM,a,dB,dR,decide_eq_true c]
  ·simp(disch:=first|exact Dq|fail)only[go_sem,bM,a,dB,dR,decide_eq_false c]
def fxI:Option Bool->Int|none=>2|some i=>ixI i
theorem wh_first(e:H[xb]?=some (.box (fA F s rb κ))){t now:Int}(h:0<=t/\t<=now)(n:now<=4294967295):∃i,resW Γ 517 [.bx xb 0,.p (.int .i64 t),.p (.int .i64 now)] H=some ([.p (.int .i64 (fxI (fsI t now)))],i)/\Ext0 H i:=by
 have a:∀G,(H++G)[xb]?=some (.box (fA F s rb κ)):=λG=>by grind
 have b:=@BF F s xb rb κ H e false t now (by omega) (by omega);have d:=@BF F s xb rb κ _ (a [.box [.p (.int .i64 (stp false)),.p (.int .i64 60)]]) true t now (by omega) (by omega);have m:rchI false t now=decide (now-t<60):=by unfold rchI stp;grind
 have l:rchI true t now=decide (now-t<600):=by unfold rchI stp;grind
 have k:ixI false=0:=rfl;have j:ixI true=1:=rfl;rw[m,k]at b;rw[l,j]at d;unfold fsI;unfold fA arcP at e a;by_cases f:now-t<60;·rw[decide_eq_true f]at b;rw[if_pos f];refine⟨H++[.box [.p (.int .i64 (stp false)),.p (.int .i64 60)]],ah (fn:=bP) rfl rfl ?_,.app _ _⟩;simp(disch:=first|exact Dq|fail)only[go_sem,bP,e];rw[aa (L:=ar) rfl];simp(disch:=first|exact Dq|fail)only[go_sem,ar,rP,b];rfl
 ·rw[decide_eq_false f]at b;rw[if_neg f];by_cases g:now-t<600;·rw[decide_eq_true g]at d;rw[if_pos g];refine⟨H++[.box [.p (.int .i64 (stp false)),.p (.int .i64 60)]]++[.box [.p (.int .i64 (stp true)),.p (.int .i64 60)]],ah (fn:=bP) rfl rfl ?_,(Ext0.app _ _).trans (.app _ _)⟩;simp(disch:=first|exact Dq|fail)only[go_sem,bP,e];rw[aa (L:=ar) rfl];simp(disch:=first|exact Dq|fail)only[go_sem,ar,rP,b];change Wp Γ ar _ _ _;rw[aa (L:=ar) rfl];simp(disch:=first|exact Dq|fail)only[go_sem,ar,rP,d];rfl
  ·rw[decide_eq_false g]at d;rw[if_neg g];refine⟨H++[.box [.p (.int .i64 (stp false)),.p (.int .i64 60)]]++[.box [.p (.int .i64 (stp true)),.p (.int .i64 60)]],ah (fn:=bP) rfl rfl ?_,(Ext0.app _ _).trans (.app _ _)⟩;simp(disch:=first|exact Dq|fail)only[go_sem,bP,e];rw[aa (L:=ar) rfl];simp(disch:=first|exact Dq|fail)only[go_sem,ar,rP,b];change Wp Γ ar _ _ _;rw[aa (L:=ar) rfl];simp(disch:=first|exact Dq|fail)only[go_sem,ar,rP,d];change Wp Γ ar _ _ _;rw[aa (L:=ar) rfl];simp(disch:=first|exact Dq|fail)only[go_sem,ar,a];rfl
end
theorem ba{H G:Heap}{k:Nat}:(H++G)[List.length H+k]?=G[k]?:=by grind
theorem af{H G:Heap}:(H++G)[List.length H]?=G[0]?:=by grind
theorem cu{H G:Heap}{k:Nat}{b:Blk}:(H++G).set (List.length H+k) b=H++G.set k b:=by simp
theorem aB{H G:Heap}{b:Blk}:(H++G).set (List.length H) b=H++G.set 0 b:=by simp
theorem Ul{H:Heap}{rb n a b:Nat}{f:Bool}{ys:List PV}(h:H[rb]?=some (.row f 1 ys))(g:ys.length=n)(l:a<n)(d:a<=b)(k:b<=n){x y:Int}(e:x=(a:Int))(c:y=(b:Int)):km H 1 (.own rb n) (some (.p (.int .i64 x))) (some (.p (.int .i64 y)))=some (.el rb n (n+a) b)/\aI H 4 (.el rb n (n+a) b)=some (.sl .mem 1 ((ys.take b).drop a)):=by
 subst e c;have i:rowOf H rb n=some (1,ys):=by simp[rowOf,h,g]
 constructor;·simp[km,bound];grind
 ·simp[aI,];grind
section


variable{F:Nat}{s:List UInt8}{xb rb:Nat}{κ:Bool}{H:Heap}{B:List UInt8}
theorem wh_has(hx:H[xb]?=some (.box (fA F s rb κ)))(hr:H[rb]?=some (.row false 1 (ao B)))(hB:B.length=1480){i:Bool}{t:Int}(h:0<=t/\t<=5000000000):∃H',resW Γ 488 [.bx xb 0,.p (.int .i64 (ixI i)),.p (.int .i64 t)] H=some ([.p (.agg [.bool (hasS B i t).1,.int .i64 (hasS B i t).2])],H')/\Ext0 H H':=by
 have ab:=@gp i t h.1;have e:=@nW i t h;have d:(H++[.box [.p (.bool false),.p (.int .i64 0)]])[xb]?=some (.box (fA F s rb κ)):=by grind
 have hr1:(H++[.box [.p (.bool false),.p (.int .i64 0)]])[rb]?=some (.row false 1 (ao B)):=by grind
 have f:=Mz d (i:=i) (t:=al i t) (by omega);have pl:=@zO i (al i t);have pc:=@wd i (al i t) ab.1;have hbl:=@aK B;let⟨w1,j⟩:=Ul (n:=1480) hr1 (by grind) (a:=pos i (al i t)) (b:=pos i (al i t)+12) (by omega) (by omega) (by omega) (x:=posI i (al i t)) (y:=posI i (al i t)+12) pc.symm (by omega);have e4:=@Jw .mem _ (@Iw B i (al i t) hB);have hs:((ao B).take (pos i (al i t)+12)).drop (pos i (al i t))=ao (slo B i (al i t)):=by rw[tE,tH,slo];grind
 rw[hs]at j;unfold hasS;unfold fA arcP at hx d;by_cases c:1<=al i t
 ·have g:decide (al i t<1)=false:=decide_eq_false (by omega);by_cases c2:ptT (slo B i (al i t))=al i t
  ·rw[if_pos ⟨c,c2⟩];have k:decide (ptT (slo B i (al i t))≠al i t)=false:=decide_eq_false (by grind);refine⟨_,ah (fn:=bB) rfl rfl ?_,Ext0.app H [.box [.p (.bool (ofV (ptV (slo B i (al i t)))).1),.p (.int .i64 (ofV (ptV (slo B i (al i t)))).2)],.box [.p (.int .i64 (ptT (slo B i (al i t)))),.p (.int .i64 (ptV (slo B i (al i t))))]]⟩;cases i<;>simp only[ixI,stp,Bool.false_eq_true,if_true,if_false]at e f⊢;·simp(disch:=first|exact Dq|fail)only[go_sem,bB,d,kr,e,g,sn,f,w1,j,e4,k,ba,af,cu,aB,List.length_append,Nat.zero_add]
   ·simp(disch:=first|exact Dq|fail)only[go_sem,bB,d,kr,e,g,sn,f,w1,j,e4,k,ba,af,cu,aB,List.length_append,Nat.zero_add]
  ·rw[if_neg (λh=>c2 h.2)];have k:decide (ptT (slo B i (al i t))≠al i t)=true:=decide_eq_true c2;refine⟨_,ah (fn:=bB) rfl rfl ?_,Ext0.app H [.box [.p (.bool false),.p (.int .i64 0)],.box [.p (.int .i64 (ptT (slo B i (al i t)))),.p (.int .i64 (ptV (slo B i (al i t))))]]⟩;cases i<;>simp only[ixI,stp,Bool.false_eq_true,if_true,if_false]at e f⊢;·simp(disch:=first|exact Dq|fail)only[go_sem,bB,d,kr,e,g,sn,f,w1,j,e4,k,ba,af,cu,aB,List.length_append,Nat.zero_add];rfl
   ·simp(disch:=first|exact Dq|fail)only[go_sem,bB,d,kr,e,g,sn,f,w1,j,e4,k,ba,af,cu,aB,List.length_append,Nat.zero_add];rfl
 ·rw[if_neg (λh=>c h.1)];have g:decide (al i t<1)=true:=decide_eq_true (by omega);refine⟨_,ah (fn:=bB) rfl rfl ?_,Ext0.app H [.box [.p (.bool false),.p (.int .i64 0)]]⟩;cases i<;>simp only[ixI,stp,Bool.false_eq_true,if_true,if_false]at e f⊢;·simp(disch:=first|exact Dq|fail)only[go_sem,bB,d,e,g,af,aB,Nat.zero_add];rfl
  ·simp(disch:=first|exact Dq|fail)only[go_sem,bB,d,e,g,af,aB,Nat.zero_add];rfl
end
theorem CS:aw Γ 539=true:=rfl
theorem copyR{H:Heap}{rb:Nat}{ys ds:List PV}{n a:Nat}(h:H[rb]?=some (.row false 1 ys))(c:ys.length=n)(f:a<n)(e:a+ds.length<=n):km H 1 (.own rb n) (some (.p (.int .i64 (a:Int)))) none=some (.el rb n (n+a) n)/\Hu H 1 (.el rb n (n+a) n) ds=some (.p (.int .i64 (ds.length:Int)),H.set rb (.row false 1 (ji ys a ds))):=by
 constructor
 ·have d:rowOf H rb n=some (1,ys):=by simp[rowOf,h,c]
  simp[km,bound];grind
 ·simp only[Hu,h];rw[if_pos ⟨by omega,by omega,by omega,by omega⟩,if_pos ⟨c,trivial⟩,show n+a-n=a by omega,List.take_of_length_le (by omega),Nat.min_eq_left (by omega)]
structure SinceK(K:Nat->Prop)(H0 H:Heap):Prop where
 len:H0.length<=H.length
 box:∀(i:Nat)cs,H0[i]?=some (.box cs)->¬K i->H[i]?=some (.box cs)
theorem SinceK.trans{K:Nat->Prop}{A B C:Heap}(h:SinceK K A B)(k:SinceK K B C):SinceK K A C:=⟨Nat.le_trans h.len k.len,λi cs hi a=>k.box i cs (h.box i cs hi a) a⟩
theorem SinceK.mono{K L:Nat->Prop}{A B:Heap}(h:SinceK K A B)(a:∀i,K i->L i):SinceK L A B:=⟨h.len,λi cs hi b=>h.box i cs hi λe=>b (a i e)⟩
theorem SinceB.k{K:Nat->Prop}{A B:Heap}(h:SinceB K A B):SinceK K A B:=⟨h.len,h.box⟩
theorem Since.k{K:Nat->Prop}{A B:Heap}(h:Since K A B):SinceK K A B:=⟨h.len,h.box⟩
theorem SinceK.row{K:Nat->Prop}{A B:Heap}(h:SinceK K A B){i:Nat}{f sz xs}(hi:B[i]?=some (.row f sz xs))(b:Blk):SinceK K A (B.set i b)where
 len:=by rw[List.length_set];exact h.len
 box j cs d c:=by have :=h.box j cs d c;grind
section


variable{F Pd M room:Nat}{H0 H:Heap}{l:Fl}{c:Nat}{s:List UInt8}{xb rb:Nat}{κ:Bool}{B:List UInt8}
theorem FsS.setRow{f:Bool}{ys o:List PV}(h:FsS F Pd M room (λi=>i=rb) H0 l c H)(P:H[rb]?=some (.row f 1 ys))(z:H0.length<=rb):FsS F Pd M room (λi=>i=rb) H0 l c (H.set rb (.row f 1 o)):=by
 have B:∀i cs,H[i]?=some (.box cs)->rb≠i:=λi cs hi e=>by grind
 let⟨a,N,u,n⟩:=h.m;let⟨G,K,R,j⟩:=h.p;have A:∀{a:List (PV×AV)}{l:Fl},FilesR H a l->NoZ (λi=>i=rb) a->FilesR (H.set rb (.row f 1 o)) a l:=by intro a;induction a with|nil=>intro l g _;cases l<;>exact g|cons e a s=>intro l g p;let⟨k,v⟩:=e;cases l with|nil=>exact g|cons x l=>let⟨t,b⟩:=x;let⟨C,⟨d,D,m,O⟩,w⟩:=g;have r:=p (k,v) (by simp) d b.length m;exact⟨C,⟨d,D,m,by grind⟩,s w λy L=>p y (by grind)⟩
 refine⟨by rw[List.getElem?_set_ne (B _ _ h.f)];exact h.f,⟨a,by grind,A u n,n⟩,λi hi=>by grind,⟨G,K,by grind,?_⟩,h.since.set (.inr z)⟩;rcases j with j|⟨d,xs,I,J,Q,q⟩;·exact .inl j
 ·exact .inr ⟨d,xs,I,J,by grind,q⟩
structure OpenF(F Pd M room:Nat)(H0:Heap)(s:List UInt8)(κ:Bool)(xb rb:Nat)(l:Fl)(B:List UInt8)(c:Nat)(H:Heap):Prop where
 fs:FsS F Pd M room (λi=>i=rb) H0 l c H
 x:H[xb]?=some (.box (fA F s rb κ))row:H[rb]?=some (.row false 1 (ao B))hB:B.length=1480
 get:fget s l=some B
 new:H0.length<=rb
 nx:xb≠Pd/\xb≠M
 nm:1<=s.length/\s.length<=255
theorem OpenF.keep(O:OpenF F Pd M room H0 s κ xb rb l B c H){a:Heap}(h:Ext0 H a):OpenF F Pd M room H0 s κ xb rb l B c a:=⟨O.fs.keep (Since.ext h),(h.2 xb (List.getElem?_eq_some_iff.1 O.x).1).trans O.x,(h.2 rb (List.getElem?_eq_some_iff.1 O.row).1).trans O.row,O.hB,O.get,O.new,O.nx,O.nm⟩
theorem JS(O:OpenF F Pd M room H0 s κ xb rb l B c H){k1:SK}(a:Nat)(d:List UInt8)(u:a+d.length<=1480)(o:a<1480)(j:c<=1000){x:Int}(g:x=(a:Int)):∃G,resW Γ 539 [.bx F 0,.p (.str s),.p (.int .i64 x),.p (.sl .tight 1 [.sl k1 1 (ao d)])] H=some ([.p (.int .i64 0)],G)/\G[xb]?=some (.box (fA F s rb κ))/\G[rb]?=some (.row false 1 (ao B))/\km G 1 (.own rb 1480) (some (.p (.int .i64 x))) none=some (.el rb 1480 (1480+a) 1480)/\OpenF F Pd M room H0 s κ xb rb (fput s (spl B a d) l) (spl B a d) (c+1) (G.set rb (.row false 1 (ao (spl B a d))))/\SinceK (λi=>i=Pd\/i=M) H (G.set rb (.row false 1 (ao (spl B a d)))):=by subst g;have v:=O.hB;let⟨G,m,q,f⟩:=fs_write O.fs O.nm.1 O.nm.2 O.get (by omega) (by grind) (k:=.tight) (k1:=k1) a d (by omega) (by omega) j;have g:=f.box xb _ O.x (λe=>by rcases e with e|e;exact O.nx.1 e;exact O.nx.2 e);have b:=f.row rb _ _ O.row;have t:=@aK d;have r:=@aK B;exact⟨G,m,g,b,(copyR (n:=1480) (ds:=ao d) b (by omega) o (by omega)).1,⟨q.setRow b O.new,by grind,List.getElem?_set_self (List.getElem?_eq_some_iff.1 b).1,by rw[Ae (by omega)];grind,nw,O.new,O.nx,O.nm⟩,f.k.row b _⟩
theorem win_p{G:Heap}{k:SK}{xs:List PV}:kx G 1 (.p (.sl k 1 xs))=some xs:=by rfl
theorem Ce(d:List UInt8)(n:Nat)(h:d.length<=n):List.take n (ao d)=ao d:=List.take_of_length_le (by rw[aK];grind)
def z4:List UInt8:=[0,0,0,0]
theorem Gp(O:OpenF F Pd M room H0 s κ xb rb l B c H){i:Bool}{t n:Int}(ht:0<=t/\t<=4294967295)(b:al i t=t)(hc:c<=900):∃e,resW Γ 516 [.bx xb 0,.p (.int .i64 (ixI i)),.p (.agg [.int .i64 t,.int .i64 n])] H=some ([],e)/\OpenF F Pd M room H0 s κ xb rb (fput s (wrS B i t n) l) (wrS B i t n) (c+3) e/\SinceK (λi=>i=Pd\/i=M) H e:=by
 have d:=O.keep (Ext0.app H [.box [.p (.int .i64 t),.p (.int .i64 n)]]);have e1:=Mz d.x (i:=i) (t:=t) (by omega);have e2:=@HI t n ht;have pl:=@zO i t;have pc:=@wd i t ht.1;let⟨G1,a1,x1,r1,w1,g,k1⟩:=JS d (k1:=.any) (pos i t) z4 (by simp[z4,];omega) (by omega) (by omega) (x:=posI i t) pc.symm;let⟨G2,a2,m,r2,w2,f,k2⟩:=JS g (k1:=.any) (pos i t+4) (enV n) (by rw[Am];omega) (by omega) (by omega) (x:=posI i t+4) (by omega);let⟨G3,a3,r,r3,w3,u,k3⟩:=JS f (k1:=.any) (pos i t) (enT t) (by rw[xC];omega) (by omega) (by omega) (x:=posI i t) pc.symm;have hB:=O.hB;have h:=Gy (B:=B) (a:=pos i t) (z:=z4) rfl (Am n) (xC t) (by omega);rw[iJ,iJ,h]at u;rw[h]at k3;unfold wrS;rw[b];refine⟨_,?_,u,((SinceB.app H _).k.trans k1).trans (k2.trans k3)⟩;have q:=g.x;have j:=f.x;have o:=d.x;have t1:=Ce z4 (1480-pos i t) (by simp[z4,List.length_cons,List.length_nil];omega);have t2:=Ce (enV n) (1480-(pos i t+4)) (by rw[Am];omega);have t3:=Ce (enT t) (1480-pos i t) (by rw[xC];omega);have l1:=@aK B;have s1:=g.hB;have s2:=f.hB;have l2:=@aK (spl B (pos i t) z4);have l3:=@aK (spl (spl B (pos i t) z4) (pos i t+4) (enV n));unfold fA at o q j x1 m r;have b1:(ao B).length=1480:=by omega
 have b2:(ao (spl B (pos i t) z4)).length=1480:=by omega
 have b3:(ao (spl (spl B (pos i t) z4) (pos i t+4) (enV n))).length=1480:=by omega
 have g1:pos i t<=1480:=by omega
 have g2:pos i t+4<=1480:=by omega
 have pb:0<=posI i t/\posI i t<=1468:=by omega
 unfold z4 at*;refine ah (fn:=fC) rfl rfl ?_;simp(disch:=first|exact Dq|fail)only[go_sem,fC,sn,e1,dB,e2];rw[aa (L:=aA) rfl];simp(disch:=first|exact Dq|fail)only[go_sem,aA,o,CS,a1,x1,kr,win_p,w1,r1,b1,t1,g1,splP,Nat.le_add_right,Nat.add_sub_cancel_left];change Wp Γ aA _ _ _;rw[aa (L:=aA) rfl];simp(disch:=first|exact Dq|fail)only[go_sem,aA,q,CS,a2,m,kr,win_p,w2,r2,b2,t2,g2,splP,Nat.le_add_right,Nat.add_sub_cancel_left];change Wp Γ aA _ _ _;rw[aa (L:=aA) rfl];simp(disch:=first|exact Dq|fail)only[go_sem,aA,j,CS,a3,r,kr,win_p,w3,r3,b3,t3,g1,splP,Nat.le_add_right,Nat.add_sub_cancel_left];change Wp Γ aA _ _ _;rw[aa (L:=aA) rfl];simp(disch:=first|exact Dq|fail)only[go_sem,aA,h]
end
theorem CJ:aw Γ 488=true:=rfl
theorem Cz:aw Γ 516=true:=rfl
theorem Ext0.get{A B:Heap}(h:Ext0 A B){i:Nat}{b:Blk}(hi:A[i]?=some b):B[i]?=some b:=(h.2 i (List.getElem?_eq_some_iff.1 hi).1).trans hi
theorem Ext0.setN{A B:Heap}(h:Ext0 A B){i:Nat}{b:Blk}(hi:A.length<=i):Ext0 A (B.set i b):=⟨by rw[List.length_set];exact h.1,λj a=>by rw[List.getElem?_set_ne (by omega)];exact h.2 j a⟩
section


variable{F Pd M room:Nat}{H0 H:Heap}{l:Fl}{c:Nat}{s:List UInt8}{xb rb:Nat}{κ:Bool}{B:List UInt8}
theorem ga_l1_ok(O:OpenF F Pd M room H0 s κ xb rb l B c H){A:Nat}(u:H[A]?=some (.box [.p (.int .i64 1),.p (.int .i64 60)])){t:Int}(y:0<=t/\t<=4294967295)(Q:Out->Prop)(x:∀e a,look e 0=.bx xb 0->look e 1=.p (.int .i64 1)->look e 9=.p (.int .i64 (al true t))->look e 10=.own H.length 10->a[H.length]?=some (.row false 2 (vpv (gaL B t)))->Ext0 H a->Q (.ex 0,e,a)):∀(f i:Nat)(a:Heap),i+f=10->Ext0 H a->a[H.length]?=some (.row false 2 (vpv ((gaL B t).take i)))->Wp Γ bK [(0,.bx xb 0),(1,.p (.int .i64 1)),(8,.bx A 0),(9,.p (.int .i64 (al true t))),(10,.own H.length i),(38,.p (.int .i64 10)),(39,.p (.int .i64 (i:Int)))] a Q:=by have C:=@gp true t y.1;have D:=@Dj B t;intro f;induction f with
 |zero=>
  intro i a hi d h;have hi:i=10:=by omega
  subst hi;rw[List.take_of_length_le (by omega)]at h;rw[aa (L:=bK) rfl];simp(disch:=first|exact Dq|fail)only[go_sem,bK];exact x _ _ rfl rfl rfl rfl h d|succ f g=>
  intro i a hi d h;have m:i<10:=by omega
  have k:=O.keep d;let⟨v,r,o⟩:=wh_has k.x k.row k.hB (i:=false) (t:=al true t+(i:Nat)) (by omega);have q:=o.get h;have n:=d.get u;have j:(gaL B t).take (i+1)=(gaL B t).take i++[((hasS B false (al true t+(i:Nat))).1,(hasS B false (al true t+(i:Nat))).2)]:=by rw[List.take_add_one];simp[gaL,m]
  have g:=g (i+1) (v.set H.length (.row false 2 (vpv ((gaL B t).take (i+1))))) (by omega) ((d.trans o).setN (Nat.le_refl _)) (List.getElem?_set_self (List.getElem?_eq_some_iff.1 q).1);rw[j]at g;have w:ixI false=0:=rfl;rw[w]at r;rw[aa (L:=bK) rfl];simp(disch:=first|exact Dq|fail)only[go_sem,bK,n,CJ,r,q,Int.mul_one];exact g
theorem lu{s b:List UInt8}:∀{l:Fl},fget s l=some b->fput s b l=l
 |[],h=>by cases h|(t,c)::l,h=>by
  unfold fget at h;unfold fput;split at h;·grind
  ·rename_i e;rw[if_neg e,lu h]
theorem quo10:cb .quo (.p (.int .i64 10)) (.p (.int .i64 1))=some (.p (.int .i64 10)):=by rfl
theorem Nq(O:OpenF F Pd M room H0 s κ xb rb l B c H){t:Int}(ht:0<=t/\t<=4294967295)(hc:c<=900):∃b g c',resW Γ 515 [.bx xb 0,.p (.int .i64 1),.p (.int .i64 t)] H=some ([.p (.bool b)],g)/\OpenF F Pd M room H0 s κ xb rb (fput s (gaS κ B t) l) (gaS κ B t) c' g/\c'<=c+3/\SinceK (λi=>i=Pd\/i=M) H g:=by
 have ab:=@gp true t ht.1;have xl:=(List.getElem?_eq_some_iff.1 O.x).1;have x1:Ext0 H (H++[.box [.p (.int .i64 10),.p (.int .i64 60)],.box [.p (.int .i64 1),.p (.int .i64 60)]]):=.app _ _;let⟨a,hH1⟩:∃a,H++[Blk.box [.p (.int .i64 10),.p (.int .i64 60)],.box [.p (.int .i64 1),.p (.int .i64 60)]]=a:=⟨_,rfl⟩;rw[hH1]at x1;have O1:=O.keep x1;have A1:a[H.length+1]?=some (.box [.p (.int .i64 1),.p (.int .i64 60)]):=by grind
 have A0:a[H.length]?=some (.box [.p (.int .i64 10),.p (.int .i64 60)]):=by grind
 have e1:=@nW true t (by omega);have s10:stp true=10:=rfl;rw[s10]at e1;have gl:=@Dj B t;have B0:∀G:Heap,(a++G)[H.length]?=some (.box [.p (.int .i64 10),.p (.int .i64 60)]):=λG=>(Ext0.app a G).get A0;have B1:∀G:Heap,(a++G)[H.length+1]?=some (.box [.p (.int .i64 1),.p (.int .i64 60)]):=λG=>(Ext0.app a G).get A1;have key:=ci (Γ:=Γ) (f:=515) (fn:=eA) (args:=[.bx xb 0,.p (.int .i64 1),.p (.int .i64 t)]) (H:=H) (K:=λrs g=>∃b c',rs=[.p (.bool b)]/\OpenF F Pd M room H0 s κ xb rb (fput s (gaS κ B t) l) (gaS κ B t) c' g/\c'<=c+3/\SinceK (λi=>i=Pd\/i=M) H g) rfl rfl ?_;·grind
 have ck:[H.length].contains xb=false:=by grind
 have qx:=O.x;unfold fA arcP at qx;simp(disch:=first|exact Dq|fail)only[go_sem,eA,qx,ba,af,cu,aB,List.length_append,Nat.zero_add,ck,e1,hH1,A0,B0,B1,quo10];refine ga_l1_ok O1 A1 ht _ (λe H2 z0 z1 z9 d hr hE2=>?_) 10 0 (a++[.row false 2 []]) rfl (Ext0.app _ _) (by simp[vpv,aggs]);have O2:=O1.keep hE2;have q2:=O2.x;unfold fA arcP at q2;have pt:=@res_put κ .any (gaL B t) gl;have rf:aI H2 4 (.own a.length 10)=some (.sl .any 2 (vpv (gaL B t))):=by simp only[aI,rowOf,hr];rfl
 have O3:=O2.keep (Ext0.app H2 [.box [.p (.bool (putV κ (gaL B t)).1),.p (.int .i64 (putV κ (gaL B t)).2)]]);have i1:ixI true=1:=rfl;have sk:∀G:Heap,SinceK (λi=>i=Pd\/i=M) H (H2++G):=λG=>(Since.ext ((x1.trans hE2).trans (Ext0.app H2 G))).k;have no:¬((putV κ (gaL B t)).1=true/\1<=al true t)->fput s (gaS κ B t) l=l/\gaS κ B t=B:=λh=>by have e:gaS κ B t=B:=if_neg h;exact⟨by rw[e];exact lu O.get,e⟩
 cases j:(putV κ (gaL B t)).1;·obtain⟨n1,n2⟩:=no (by grind);rw[j]at O3;simp(disch:=first|exact Dq|fail)only[go_sem,z0,z1,z9,d,q2,rf,pt,j,af,aB,Nat.zero_add];grind
 ·rw[j]at O3;by_cases h1:1<=al true t
  ·have d1:decide (al true t<1)=false:=decide_eq_false (by omega);obtain⟨H4,w1,w2,w3⟩:=Gp O3 (i:=true) (t:=al true t) (n:=(putV κ (gaL B t)).2) (by omega) al_al hc;have ge:gaS κ B t=wrS B true (al true t) (putV κ (gaL B t)).2:=by unfold gaS wrS;rw[if_pos ⟨j,h1⟩,Rp ht.1,al_al]
   rw[i1]at w1;simp(disch:=first|exact Dq|fail)only[go_sem,z0,z1,z9,d,q2,rf,pt,j,af,aB,Nat.zero_add,d1,Cz,w1];rw[ge];exact⟨_,_,rfl,w2,by omega,(sk _).trans w3⟩
  ·have d1:decide (al true t<1)=true:=decide_eq_true (by omega);obtain⟨n1,n2⟩:=no (by grind);simp(disch:=first|exact Dq|fail)only[go_sem,z0,z1,z9,d,q2,rf,pt,j,af,aB,Nat.zero_add,d1];grind
end
theorem KN:aw Γ 515=true:=rfl
theorem so:aw Γ 517=true:=rfl
section


variable{F Pd M room:Nat}{H0 H:Heap}{l:Fl}{c:Nat}{s:List UInt8}{xb rb:Nat}{κ:Bool}{B:List UInt8}
def LaysR(F Pd M room:Nat)(H0:Heap)(s:List UInt8)(κ:Bool)(xb rb:Nat)(l:Fl)(c:Nat)(H:Heap)(r:Bool×List UInt8)(rs:List AV)(H':Heap):Prop:=∃c',rs=[.p (.bool r.1)]/\OpenF F Pd M room H0 s κ xb rb (fput s r.2 l) r.2 c' H'/\c'<=c+6/\SinceK (λi=>i=Pd\/i=M) H H'
theorem wh_lays(O:OpenF F Pd M room H0 s κ xb rb l B c H){a n now:Int}(hn:1<=now/\now<=4294967295)(hc:c<=800):∃rs j,resW Γ 495 [.bx xb 0,.p (.agg [.int .i64 a,.int .i64 n]),.p (.int .i64 now)] H=some (rs,j)/\LaysR F Pd M room H0 s κ xb rb l c H (layS κ now (a,n) B) rs j:=by
 have x1:Ext0 H (H++[.box [.p (.int .i64 a),.p (.int .i64 n)]]):=.app _ _;have O1:=O.keep x1;have no:∀j,Ext0 H j->LaysR F Pd M room H0 s κ xb rb l c H (false,B) [.p (.bool false)] j:=λj h=>⟨c,rfl,by rw[lu O.get];exact O.keep h,by omega,(Since.ext h).k⟩;refine ci (fn:=bt) rfl rfl ?_;unfold layS;by_cases h1:a<1;·rw[if_pos (.inl h1)];have e:decide (a<1)=true:=decide_eq_true h1;simp(disch:=first|exact Dq|fail)only[go_sem,bt,af,Nat.zero_add,e];grind
 have e:decide (a<1)=false:=decide_eq_false h1;by_cases h2:now<a;·rw[if_pos (.inr (.inl h2))];have f:decide (now<a)=true:=decide_eq_true h2;simp(disch:=first|exact Dq|fail)only[go_sem,bt,af,Nat.zero_add,e,f];grind
 have f:decide (now<a)=false:=decide_eq_false h2;cases g:(ofV n).1;·rw[if_pos (.inr (.inr rfl))];simp(disch:=first|exact Dq|fail)only[go_sem,bt,af,Nat.zero_add,e,f,g];grind
 rw[if_neg (by grind)];obtain⟨H2,d,f2⟩:=wh_first O1.x (t:=a) (now:=now) (by omega) hn.2;have O2:=O1.keep f2;have x2:=x1.trans f2;have b2:H2[H.length]?=some (.box [.p (.int .i64 a),.p (.int .i64 n)]):=f2.get (by simp);have o:=O2.x;unfold fA arcP at o;cases hf:fsI a now with
 |none=>rw[hf]at d;have e2:fxI none=2:=rfl;rw[e2]at d;simp(disch:=first|exact Dq|fail)only[go_sem,bt,af,Nat.zero_add,e,f,g,so,d,o];grind|some i=>
  rw[hf]at d;have m:=@nW i a (by omega);have ab:=@gp i a (by omega);by_cases h4:al i a<1
  ·have q:decide (al i a<1)=true:=decide_eq_true h4;simp only[];cases i<;>simp only[fxI,ixI,stp,Bool.false_eq_true,if_true,if_false]at d m;·simp(disch:=first|exact Dq|fail)only[go_sem,bt,af,Nat.zero_add,e,f,g,so,d,o,b2,m,q];grind
   ·simp(disch:=first|exact Dq|fail)only[go_sem,bt,af,Nat.zero_add,e,f,g,so,d,o,b2,m,q];grind
  ·have q:decide (al i a<1)=false:=decide_eq_false h4;obtain⟨H3,w1,w2,w3⟩:=Gp O2 (i:=i) (t:=al i a) (n:=n) (by omega) al_al (by omega);have we:wrS B i (al i a) n=wrS B i a n:=by unfold wrS;rw[Rp (by omega),al_al]
   rw[we]at w2;have k3:SinceK (λi=>i=Pd\/i=M) H H3:=(Since.ext x2).k.trans w3;have q3:=w2.x;have np:H.length≠Pd/\H.length≠M:=by obtain⟨_,_,p1,_⟩:=O.fs.p;obtain⟨_,m1,_⟩:=O.fs.m;grind
   have b3:H3[H.length]?=some (.box [.p (.int .i64 a),.p (.int .i64 n)]):=w3.box _ _ b2 (by omega);unfold fA arcP at q3;simp only[h4,if_false];cases i<;>simp only[fxI,ixI,stp,Bool.false_eq_true,if_true,if_false]at d m w1⊢
   ·obtain⟨b,H4,c4,g1,g2,g3,g4⟩:=Nq w2 (t:=a) (by omega) (by omega);have q4:=g2.x;rw[iJ]at g2;unfold fA arcP at q4;simp(disch:=first|exact Dq|fail)only[go_sem,bt,af,Nat.zero_add,e,f,g,so,d,o,b2,m,q,Cz,w1];rw[aa (L:=bq) rfl];cases b;·simp(disch:=first|exact Dq|fail)only[go_sem,bq,q3,b3,KN,g1];exact⟨c4,rfl,g2,by omega,k3.trans g4⟩
    ·simp(disch:=first|exact Dq|fail)only[go_sem,bq,q3,b3,KN,g1];change Wp Γ bq _ _ _;rw[aa (L:=bq) rfl];simp(disch:=first|exact Dq|fail)only[go_sem,bq,q4];exact⟨c4,rfl,g2,by omega,k3.trans g4⟩
   ·simp(disch:=first|exact Dq|fail)only[go_sem,bt,af,Nat.zero_add,e,f,g,so,d,o,b2,m,q,Cz,w1];rw[aa (L:=bq) rfl];simp(disch:=first|exact Dq|fail)only[go_sem,bq,q3];exact⟨c+3,rfl,w2,by omega,k3⟩
end
theorem Mh:aw Γ 495=true:=rfl
theorem jC:aw Γ 491=true:=rfl
theorem LS:aw Γ 494=true:=rfl
structure IsF(κ:Bool)(B:List UInt8):Prop where
 len:B.length=1480
 hd:B.take 40=hdrB κ
theorem IsF.eq{κ B}(h:IsF κ B):B=CA κ (B.drop 40)/\(B.drop 40).length=1440:=by refine⟨?_,by rw[List.length_drop,h.len]⟩;rw[CA,<-h.hd,List.take_append_drop]
theorem IsF.ne{κ B}(h:IsF κ B):B≠[]:=λe=>by have :=h.len;grind
theorem IsF.wr{κ B i t n}(h:IsF κ B):IsF κ (wrS B i t n):=by
 refine⟨wrS_len h.len,?_⟩;have a:40<=pos i t:=by
  have :40<=posI i t:=by unfold posI offI;grind
  unfold pos;omega
 have b:=h.len;rw[<-h.hd];unfold wrS spl;grind
theorem IsF.ga{κ B t}(h:IsF κ B):IsF κ (gaS κ B t):=by
 unfold gaS;split;·exact h.wr
 grind
theorem IsF.lay{κ B now p}(h:IsF κ B):IsF κ (layS κ now p B).2:=by
 unfold layS;split;·grind
 ·split;·grind
  ·split;·grind
   ·split;·exact h.wr
    ·exact h.wr.ga
def nC(κ:Bool)(now:Int)(x:Nat×List UInt8)(p:Int×Int):Nat×List UInt8:=(if(layS κ now p x.2).1 then x.1+1 else x.1,(layS κ now p x.2).2)
def updS(κ:Bool)(now:Int)(ps:List (Int×Int))(B:List UInt8):Nat×List UInt8:=ps.foldl (nC κ now) (0,B)
theorem vV{κ now}:∀{ps:List (Int×Int)}{x:Nat×List UInt8},IsF κ x.2->IsF κ (ps.foldl (nC κ now) x).2/\(ps.foldl (nC κ now) x).1<=x.1+ps.length
 |[],x,h=>⟨h,Nat.le_refl _⟩|p::ps,x,h=>by have :=@vV κ now ps (nC κ now x p) h.lay;refine⟨this.1,Nat.le_trans this.2 ?_⟩;simp[nC,];grind
def ptsP(ps:List (Int×Int)):List PV:=ps.map λp=>.agg [.int .i64 p.1,.int .i64 p.2]
theorem sZ{ps}:(ptsP ps).length=ps.length:=by simp[ptsP]
theorem tw(now:Int):res Γ 489 [.int .i64 now]=some [.bool (decide (1<=now)&&decide (now<=4294967295))]:=by
 refine ae (fn:=iR) rfl rfl ?_;by_cases c:1<=now;·simp(disch:=first|exact Dq|fail)only[go_sem,iR,decide_eq_true c]
 ·simp(disch:=first|exact Dq|fail)only[go_sem,iR,decide_eq_false c]
section


variable{F Pd M room:Nat}{Z:Nat->Prop}{H0 H:Heap}{l:Fl}{c:Nat}{s:List UInt8}{κ:Bool}{B:List UInt8}
theorem xm(h:FsS F Pd M room Z H0 l c H)(d:1<=s.length/\s.length<=255)(e:IsF κ B)(m:fget s l=some B):∃b xb,resW Γ 491 [.bx F 0,.p (.str s)] H=some ([.bx xb 0,.p (.int .i64 0)],b)/\Since (λ_=>False) H b/\b[xb]?=some (.box (fA F s H.length κ))/\b[H.length]?=some (.row false 1 (ao B))/\H.length<=xb:=by
 have o:=e.len;let⟨j,k,t,q⟩:=fs_read h d.1 d.2 m (by omega) e.ne;have g:=fs_size h d.1 d.2 m;rw[o]at k g;have f:=@HK κ .any _ e.eq.2;rw[<-e.eq.1]at f;have n:=@Hg κ .any;have r:=@aK B;rw[o]at r;have i:∀G:Heap,(j++G)[H.length]?=some (.row false 1 (ao B)):=λG=>by grind
 refine⟨j++[.box [.p (.int .i64 (agI κ)),.p (.int .i64 (xfI κ)),.p (arcP .any)],.box (fA F s H.length κ)],j.length+1,?_,t.trans (Since.app _ _),?_,i _,?_⟩;·have a:((1480:Nat):Int)=1480:=rfl;rw[a]at k g;unfold hdrP arcP at f n;refine ah (fn:=lA) rfl rfl ?_;simp(disch:=first|exact Dq|fail)only[go_sem,lA,g,k,q,f,n,still506,still505,af,aB,List.length_append,Nat.zero_add,fA,arcP]
 all_goals grind
theorem FsS.lt(h:FsS F Pd M room Z H0 l c H):Pd<H.length/\M<H.length:=by let⟨_,_,d,_⟩:=h.p;let⟨_,b,_⟩:=h.m;grind
theorem Rn{k:SK}{xb rb:Nat}{now:Int}(hn:1<=now/\now<=4294967295)(ps:List (Int×Int))(hp:ps.length<=100)(Q:Out->Prop):∀(r:List (Int×Int))(i m c:Nat)(l:Fl)(B:List UInt8)(H:Heap),ps.drop i=r->i<=ps.length->m<=i->c<=6*i->OpenF F Pd M room H0 s κ xb rb l B c H->(∀e b f,look e 0=.bx F 0->look e 12=.p (.int .i64 ((r.foldl (nC κ now) (m,B)).1:Nat))->OpenF F Pd M room H0 s κ xb rb (fput s (r.foldl (nC κ now) (m,B)).2 l) (r.foldl (nC κ now) (m,B)).2 f b->f<=600->SinceK (λi=>i=Pd\/i=M) H b->Q (.ex 0,e,b))->Wp Γ cj [(0,.bx F 0),(2,.p (.int .i64 now)),(10,.bx xb 0),(12,.p (.int .i64 (m:Int))),(27,.p (.sl k 2 (ptsP ps))),(28,.p (.int .i64 (ps.length:Int))),(29,.p (.int .i64 (i:Int)))] H Q:=by intro r;induction r with
 |nil=>
  intro i m c l B H q hi hm hc O d;have hi:i=ps.length:=by have :=List.drop_eq_nil_iff.1 q;omega
  subst hi;rw[aa (L:=cj) rfl];simp(disch:=first|exact Dq|fail)only[go_sem,cj];exact d _ _ c rfl rfl (by rw[List.foldl_nil,lu O.get];grind) (by omega) (Since.refl H).k|cons p r g=>
  intro i m c l B H q hi hm hc O d;let⟨a,n⟩:=p;have h:i<ps.length:=by grind
  have hg:(ptsP ps)[i]?=some (.agg [.int .i64 a,.int .i64 n]):=by
   have :ps[i]?=some (a,n):=by rw[<-List.head?_drop,q];rfl
   simp[ptsP,this]
  have j:ps.drop (i+1)=r:=by rw[<-List.tail_drop,q];rfl
  have x1:Ext0 H (H++[.box [.p (.int .i64 a),.p (.int .i64 n)]]):=.app _ _;obtain⟨rs,H2,o,c2,rfl,O2,hc2,k2⟩:=wh_lays (O.keep x1) (a:=a) (n:=n) hn (by omega);have k3:=(Since.ext (K:=λi=>i=Pd\/i=M) x1).k.trans k2;rw[List.foldl_cons]at d;have ia:iaddrA H 2 (.p (.sl k 2 (ptsP ps))) (.p (.int .i64 (i:Int)))=some (.p (.ptr [.int .i64 a,.int .i64 n])):=mP (i:=(i:Int)) (by omega) (by simpa using hg);cases e:(layS κ now (a,n) B).1
  ·have x:nC κ now (m,B) (a,n)=(m,(layS κ now (a,n) B).2):=by simp[nC,e]
   rw[x]at d;rw[e]at o;have g:=g (i+1) m c2 _ _ H2 j h (by omega) (by omega) O2 (λe b f v t w u z=>d e b f v t (by rw[iJ]at w;grind) u (k3.trans z));rw[aa (L:=cj) rfl];simp(disch:=first|exact Dq|fail)only[go_sem,cj,ia,af,aB,Nat.zero_add,Mh,o];exact g
  ·have x:nC κ now (m,B) (a,n)=(m+1,(layS κ now (a,n) B).2):=by simp[nC,e]
   rw[x]at d;rw[e]at o;have g:=g (i+1) (m+1) c2 _ _ H2 j h (by omega) (by omega) O2 (λe b f v t w u z=>d e b f v t (by rw[iJ]at w;grind) u (k3.trans z));rw[aa (L:=cj) rfl];simp(disch:=first|exact Dq|fail)only[go_sem,cj,ia,af,aB,Nat.zero_add,Mh,o];exact g
theorem JE(h:FsS F Pd M room Z H0 l c H)(i:1<=s.length/\s.length<=255)(d:IsF κ B)(e:fget s l=some B){now:Int}(m:¬(1<=now/\now<=4294967295)){v:PV}:∃a,resW Γ 481 [.bx F 0,.p (.str s),.p (.int .i64 now),.p v] H=some ([.p (.int .i64 0),.p (.int .i64 1)],a)/\Since (λ_=>False) H a:=by
 let⟨g,xb,k,f,q,r,o⟩:=xm h i d e;have b:=tw now;have j:(decide (1<=now)&&decide (now<=4294967295))=false:=by grind
 rw[j]at b;refine⟨g,ah (fn:=fV) rfl rfl ?_,f⟩;simp(disch:=first|exact Dq|fail)only[go_sem,fV,jC,k,b]
theorem SU{k:SK}(h:FsS F Pd M room (λ_=>False) H0 l 0 H)(o:1<=s.length/\s.length<=255)(j:IsF κ B)(t:fget s l=some B){now:Int}(d:1<=now/\now<=4294967295)(ps:List (Int×Int))(A:ps.length<=100):∃a,resW Γ 481 [.bx F 0,.p (.str s),.p (.int .i64 now),.p (.sl k 2 (ptsP ps))] H=some ([.p (.int .i64 ((updS κ now ps B).1:Nat)),.p (.int .i64 0)],a)/\FsS F Pd M room (λ_=>False) H0 (fput s (updS κ now ps B).2 l) 0 a/\SinceK (λi=>i=Pd\/i=M) H a:=by
 let⟨n,xb,I,m,z,q,P⟩:=xm h o j t;have c:=(List.getElem?_eq_some_iff.1 q).1;have L:=h.addZ m (Nat.le_refl _) c;have x:=h.lt;have O:OpenF F Pd M room H0 s κ xb H.length l B 0 n:=⟨L,z,q,j.len,t,h.since.len,by omega,o⟩;have r:=tw now;rw[decide_eq_true d.1,decide_eq_true d.2,Bool.and_self]at r;have v:=@sZ ps;have u:=ci (Γ:=Γ) (f:=481) (fn:=fV) (args:=[.bx F 0,.p (.str s),.p (.int .i64 now),.p (.sl k 2 (ptsP ps))]) (H:=H) (K:=λrs a=>rs=[.p (.int .i64 ((updS κ now ps B).1:Nat)),.p (.int .i64 0)]/\FsS F Pd M room (λ_=>False) H0 (fput s (updS κ now ps B).2 l) 0 a/\SinceK (λi=>i=Pd\/i=M) H a) rfl rfl ?_;·grind
 simp(disch:=first|exact Dq|fail)only[go_sem,fV,jC,I,r,v];refine Rn d ps A _ ps 0 0 0 l B n rfl (by omega) (by omega) (by omega) O (λe a Q y g w C J=>?_);let⟨R,D,G,E⟩:=Tz w.fs;simp(disch:=first|exact Dq|fail)only[go_sem,y,g,LS,D];exact⟨rfl,G.noZ,((m.k.mono λ_ e=>e.elim).trans J).trans E.k⟩
end
def fF(now fr:Int):Int:=if(if(0:Int)<fr then fr else 0)<now-600 then now-600 else(if(0:Int)<fr then fr else 0)
def uF(now un:Int):Int:=if now<un then now else un
def iF(now fr:Int):Bool:=decide (60<now-fF now fr)
def aF(i:Bool)(t:Int):Int:=(t+stp i)/stp i
def nF(now fr un:Int):Nat:=let i:=iF now fr;(if aF i (fF now fr)+1<aF i (uF now un)then aF i (uF now un)-aF i (fF now fr)else 1).toNat
def stG(now fr:Int):Int:=aF (iF now fr) (fF now fr)*stp (iF now fr)
def vlF(B:List UInt8)(now fr un:Int):List Val:=(List.range (nF now fr un)).map λk=>hasS B (iF now fr) (stG now fr+(k:Nat)*stp (iF now fr))
def okF(now fr un:Int):Prop:=fr<=un/\fr<=now/\0<=un/\now-600<=un
theorem ug{B now a b}:(vlF B now a b).length=nF now a b:=by simp[vlF]
theorem al_mul{i:Bool}{t:Int}:al i t=t/stp i*stp i:=by unfold al uZ stp;grind
theorem endF{now a b:Int}(l:1<=now/\now<=4294967295)(h:okF now a b):0<=fF now a/\fF now a<=now/\0<=uF now b/\uF now b<=now/\1<=nF now a b/\nF now a b<=100/\1<=stG now a/\al (iF now a) (fF now a+stp (iF now a))=stG now a/\(if al (iF now a) (uF now b+stp (iF now a))<stG now a+stp (iF now a)then stG now a+stp (iF now a)else al (iF now a) (uF now b+stp (iF now a)))=stG now a+(nF now a b:Nat)*stp (iF now a)/\stG now a+(nF now a b:Nat)*stp (iF now a)<=4294967400:=by
 let⟨g,j,e,k⟩:=h;have i:0<=fF now a/\fF now a<=now/\now-600<=fF now a:=by unfold fF;grind
 have d:0<=uF now b/\uF now b<=now:=by unfold uF;grind
 have hi:iF now a=true\/iF now a=false/\now-fF now a<=60:=by unfold iF;grind
 simp[nF,stG,al_mul,aF];generalize fF now a=f at*;generalize uF now b=u at*;rcases hi with hi|⟨hi,m⟩<;>rw[hi]<;>simp[stp,];all_goals grind
theorem Ee{H a:Heap}{i:Nat}{x y:AV}{r:List AV}(h:H[i]?=some (.box (x::y::r)))(b:a[i]?=some (.box (x::y::r))):jl H a i=true:=by unfold jl;rw[h,b];simp[lj,KI]
section


variable{F Pd M room:Nat}{Z:Nat->Prop}{H0 H:Heap}{l:Fl}{c:Nat}{s:List UInt8}{κ:Bool}{B:List UInt8}
def VR(K H:Heap)(X:Nat)(V:AV)(l:List Val):Prop:=(l=[]/\V=.p (.sl .nil 2 []))\/∃R,V=.own R l.length/\0<l.length/\K.length<=R/\R≠X/\H[R]?=some (.row false 2 (vpv l))
theorem Lh{K:Heap}{xb rb T X:Nat}(Y:K[xb]?=some (.box (fA F s rb κ)))(Z:K[rb]?=some (.row false 1 (ao B)))(I:B.length=1480){i:Bool}{st en:Int}{n:Nat}(hn:n<=100)(h0:1<=st)(he:en=st+(n:Nat)*stp i)(hm:en<=4294967400)(C:K.length<=X){nm:PV}(P:nm.one=true)(Q:Out->Prop)(O:∀e m V,look e 10=.bx T 0->look e 17=.bx X 0->m[X]?=some (.box [.p nm,.p (.int .i64 st),.p (.int .i64 (stp i)),V,.p (.int .i64 0)])->Ext0 K m->VR K m X V ((List.range n).map λk=>hasS B i (st+(k:Nat)*stp i))->Q (.ex 3,e,m)):∀(f j:Nat)(H:Heap)(V:AV)(t:Int),t=st+(j:Nat)*stp i->j+f=n->Ext0 K H->H[X]?=some (.box [.p nm,.p (.int .i64 st),.p (.int .i64 (stp i)),V,.p (.int .i64 0)])->VR K H X V ((List.range j).map λk=>hasS B i (st+(k:Nat)*stp i))->Wp Γ cE [(10,.bx T 0),(12,.bx xb 0),(15,.p (.int .i64 (ixI i))),(16,.p (.int .i64 (stp i))),(17,.bx X 0),(18,.p (.int .i64 en)),(19,.p (.int .i64 t))] H Q:=by intro f;induction f with
 |zero=>
  intro j H V t w v h g u;subst w;have v:j=n:=by omega
  subst v;have d:decide (st+(j:Nat)*stp i<en)=false:=decide_eq_false (by omega);rw[aa (L:=cE) rfl];simp(disch:=first|exact Dq|fail)only[go_sem,cE,d];exact O _ _ _ rfl rfl g h u|succ f a=>
  intro j H V t w v h g u;subst w;have hs:(j:Int)*stp i+stp i<=(n:Int)*stp i/\0<=(j:Int)*stp i/\1<=stp i/\stp i<=10:=by cases i<;>simp[stp]<;>omega
  have d:=decide_eq_true (by omega);let⟨c,E,l⟩:=wh_has (h.get Y) (h.get Z) I (i:=i) (t:=st+(j:Nat)*stp i) (by omega);have o:=l.get g;have y:=Ee g o;have x:st+(j:Nat)*stp i+stp i=st+((j+1:Nat):Int)*stp i:=by grind
  have q:(List.range (j+1)).map (λk=>hasS B i (st+(k:Nat)*stp i))=(List.range j).map (λk=>hasS B i (st+(k:Nat)*stp i))++[((hasS B i (st+(j:Nat)*stp i)).1,(hasS B i (st+(j:Nat)*stp i)).2)]:=by rw[List.range_succ,List.map_append];rfl
  have xl:=(List.getElem?_eq_some_iff.1 o).1;rcases u with⟨M,rfl⟩|⟨R,rfl,M,A,D,N⟩
  ·have U:=λG=>(Ext0.app c G).get o;have r:j=0:=by simp_all
   subst r;have a:=a (0+1) ((c++[Blk.row false 2 [.agg [.bool (hasS B i (st+(0:Nat)*stp i)).1,.int .i64 (hasS B i (st+(0:Nat)*stp i)).2]]]).set X (.box [.p nm,.p (.int .i64 st),.p (.int .i64 (stp i)),.own c.length 1,.p (.int .i64 0)])) (.own c.length 1) _ x (by omega) (((h.trans l).trans (.app _ _)).setN C) (List.getElem?_set_self (by grind)) (.inr ⟨c.length,by simp,by simp,by omega,by omega,by rw[List.getElem?_set_ne (by omega),af];rfl⟩);rw[aa (L:=cE) rfl];simp(disch:=first|exact Dq|fail)only[go_sem,cE,d,g,CJ,E,y,U,Nat.zero_add];exact a
  ·have z:=l.get N;have hl:((List.range j).map λk=>hasS B i (st+(k:Nat)*stp i)).length=j:=by simp
   have a:=a (j+1);rw[q]at a;generalize(List.range j).map (λk=>hasS B i (st+(k:Nat)*stp i))=L at*;have W:=D;have S:∀b,(c.set R b)[X]?=some (.box [.p nm,.p (.int .i64 st),.p (.int .i64 (stp i)),.own R L.length,.p (.int .i64 0)]):=λb=>by simp_all
   have a:=a ((c.set R (.row false 2 (vpv (L++[((hasS B i (st+(j:Nat)*stp i)).1,(hasS B i (st+(j:Nat)*stp i)).2)])))).set X (.box [.p nm,.p (.int .i64 st),.p (.int .i64 (stp i)),.own R (L.length+1),.p (.int .i64 0)])) (.own R (L.length+1)) _ x (by omega) (((h.trans l).setN A).setN C) (List.getElem?_set_self (by simp[*])) (.inr ⟨R,by simp,by simp,A,D,by rw[List.getElem?_set_ne (Ne.symm W)];exact List.getElem?_set_self (List.getElem?_eq_some_iff.1 z).1⟩);have J:L.length+1<=1073741824:=by omega
   rw[aa (L:=cE) rfl];simp(disch:=first|exact Dq|fail)only[go_sem,cE,d,g,CJ,E,y,z,S,Nat.zero_add];exact a
end
end Ab
