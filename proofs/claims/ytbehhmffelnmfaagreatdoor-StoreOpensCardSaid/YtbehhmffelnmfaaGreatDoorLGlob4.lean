import Derived.Test.YtbehhmffelnmfaaGreatDoorPGlob
import Derived.Test.YtbehhmffelnmfaaGreatDoorAbW2
import Derived.Test.YtbehhmffelnmfaaGreatDoorDec
set_option linter.all false
namespace Ab
def jK(acc:List Bool)(a:Nat):Nat->List Bool|0=>acc|k+1=>(jK acc a k).set (a+k) true
theorem dC{acc a k}:(jK acc a k).length=acc.length:=by induction k with|zero=>rfl|succ k b=>rw[jK,List.length_set,b]
theorem xt{acc:List Bool}{a k i:Nat}(hi:i<acc.length):(jK acc a k).getD i false=(acc.getD i false||(decide (a<=i)&&decide (i<a+k))):=by induction k with|zero=>simp[jK,];grind|succ k b=>have d:=@dC acc a k;simp[jK,]at b⊢;grind
def none256:List Bool:=List.replicate 256 false
theorem dg:none256.length=256:=List.length_replicate
theorem wC{i:Nat}:none256.getD i false=false:=by unfold none256;grind
def dI:List UInt8->List Bool->Option (List Bool)|[],acc=>some acc|[a],acc=>some (jK acc a.toNat 1)|[a,b],acc=>some (jK (jK acc a.toNat 1) b.toNat 1)|a::b::c::r,acc=>if b=45 then(if c<a then none else dI r (jK acc a.toNat (c.toNat-a.toNat+1)))else dI (b::c::r) (jK acc a.toNat 1)
def inF:List UInt8->UInt8->Bool|[],_=>false|[a],x=>a==x|[a,b],x=>a==x||b==x|a::b::c::r,x=>if b=45 then((decide (a<=x)&&decide (x<=c))||inF r x)else(a==x||inF (b::c::r) x)
theorem tJ:∀{l:List UInt8}{acc d:List Bool},dI l acc=some d->d.length=acc.length
 |[],_,_,h=>by simp[dI,]at h;grind|[a],_,_,h=>by simp[dI,]at h;rw[<-h,dC]|[a,b],_,_,h=>by simp[dI,]at h;rw[<-h,dC,dC]|a::b::c::r,acc,d,h=>by
  rw[dI]at h;split at h
  ·split at h;·grind
   ·rw[tJ h,dC]
  ·rw[tJ h,dC]
theorem xR{acc:List Bool}(b:acc.length=256)(a x:UInt8):(jK acc a.toNat 1).getD x.toNat false=(acc.getD x.toNat false||a==x):=by
 have c:=x.toNat_lt;rw[xt (by omega)];congr 1;by_cases h:a=x;·grind
 ·have :=λe=>h (UInt8.toNat_inj.1 e);grind
theorem tN:∀{l:List UInt8}{acc d:List Bool},dI l acc=some d->acc.length=256->∀x:UInt8,d.getD x.toNat false=(acc.getD x.toNat false||inF l x)
 |[],_,_,h,_,x=>by simp[dI,]at h;rw[<-h];simp[inF]|[a],_,_,h,e,x=>by simp[dI,]at h;rw[<-h,xR e];rfl|[a,b],_,_,h,e,x=>by simp[dI,]at h;rw[<-h,xR (by rw[dC,e]),xR e,Bool.or_assoc];rfl|a::b::c::r,acc,d,h,e,x=>by
  rw[dI]at h;rw[inF];split at h
  ·rename_i f;rw[if_pos f];split at h;·grind
   ·rename_i j;rw[tN h (by rw[dC,e]) x,<-Bool.or_assoc];congr 1;have n:=x.toNat_lt;rw[xt (by omega)];congr 1;have k:a.toNat<=c.toNat:=by have :=UInt8.not_lt.1 j;exact UInt8.le_iff_toNat_le.1 this
    have m:decide (a<=x)=decide (a.toNat<=x.toNat):=decide_eq_decide.2 UInt8.le_iff_toNat_le;have o:decide (x<=c)=decide (x.toNat<a.toNat+(c.toNat-a.toNat+1)):=by refine decide_eq_decide.2 ?_;rw[UInt8.le_iff_toNat_le];omega
    grind
  ·rename_i f;rw[if_neg f,tN h (by rw[dC,e]) x,xR e,Bool.or_assoc]
def il(c:UInt8):Bool:=(decide (97<=c)&&decide (c<=122))||(decide (65<=c)&&decide (c<=90))||(decide (48<=c)&&decide (c<=57))||c==95||c==45||c==58||c==35||c==37||c==64||c==61
def cX:List UInt8->Option (List Tok)|[]=>some []|c::r=>if c=42 then(cX r).map ((true,none256)::·)else if c=63 then(cX r).map ((false,jK none256 0 256)::·)else if c=91 then(if ixB r 93<=0 then none else match dI (r.take (ixB r 93).toNat) none256 with|none=>none|some st=>(cX (r.drop ((ixB r 93).toNat+1))).map ((false,st)::·))else if il c=true then(cX r).map ((false,jK none256 c.toNat 1)::·)else none
termination_by l=>l.length
decreasing_by
 all_goals simp_wf
 all_goals omega
theorem all_get(x:UInt8):(jK none256 0 256).getD x.toNat false=true:=by have b:=x.toNat_lt;rw[xt (by rw[dg];omega)];grind
theorem toks_inT{l:List UInt8}{st:List Bool}(h:dI l none256=some st)(c:UInt8):inT (false,st) c=inF l c:=by unfold inT;rw[tN h dg c,wC,Bool.false_or]
def tokP(t:Tok):PV:=.ptr (cv (t.1::t.2))
def ptrs(l:List Tok):List PV:=l.map tokP
theorem pD{l}:(ptrs l).length=l.length:=by simp[ptrs]
theorem ptrs_one{l:List Tok}{b:Bool}{s:List Bool}:ptrs l++[.ptr (cv (b::s))]=ptrs (l++[(b,s)]):=by simp[ptrs,tokP]
theorem ptrs_get{l:List Tok}{i:Nat}(h:i<l.length):(ptrs l)[i]?=some (tokP (l.getD i (false,[]))):=by simp[ptrs,List.getElem?_eq_getElem h]
theorem Po{H xs b k i}(a:0<=i)(h:i<(xs.length:Int)):iaddrA H 1 (.p (.sl b 1 (ptrs xs))) (.p (.int k i))=some (.p (.ptr [tokP (xs.getD i.toNat (false,[]))])):=by rw[mP a (ptrs_get (by omega))];rfl
theorem tok_any{b:Bool}{l:List Bool}:qb 1 false (cv (b::l))=some (.p (.bool b)):=rfl
theorem NT{H:Heap}{t:Tok}:lc H (.p (tokP t))=some (.p (tokP t)):=rfl
theorem Rw{t:Tok}:(cv (t.1::t.2)).drop 1=cv t.2:=rfl
theorem PM{t:Tok}:(cv (t.1::t.2)).drop 0=cv (t.1::t.2):=rfl
attribute[go_sem]pD ptrs_one Po NT Rw PM tok_any
theorem tn1{i:Nat}:((i:Int)+1).toNat=i+1:=by omega
theorem tn2{i:Nat}:((i:Int)+2).toNat=i+2:=by omega
theorem tnA{i n:Nat}:((i:Int)+(n:Int)).toNat=i+n:=by omega
theorem aR{s:List UInt8}{i:Nat}(b:UInt8):byt s i=(b.toNat:Int)↔s.getD i 0=b:=by unfold byt;exact⟨λh=>UInt8.toNat_inj.1 (by omega),λh=>by rw[h]⟩
def Ch(n:Int):Bool:=il n.toNat.toUInt8
theorem td{s:List UInt8}{i:Nat}:Ch (byt s i)=il (s.getD i 0):=by unfold Ch byt;simp
theorem ge_u8{n:Int}{k:Nat}(f:0<=n)(d:n<256)(e:k<256):decide ((k:Int)<=n)=decide (UInt8.ofNat k<=n.toNat.toUInt8):=by
 refine decide_eq_decide.2 ?_;rw[UInt8.le_iff_toNat_le];have c:(UInt8.ofNat k).toNat=k:=by simp[*]
 have b:n.toNat.toUInt8.toNat=n.toNat:=by simp[*]
 grind
theorem le_u8{n:Int}{k:Nat}(f:0<=n)(d:n<256)(e:k<256):decide (n<=(k:Int))=decide (n.toNat.toUInt8<=UInt8.ofNat k):=by
 refine decide_eq_decide.2 ?_;rw[UInt8.le_iff_toNat_le];have c:(UInt8.ofNat k).toNat=k:=by simp[*]
 have b:n.toNat.toUInt8.toNat=n.toNat:=by simp[*]
 grind
theorem rK{n:Int}{k:Nat}(f:0<=n)(d:n<256)(e:k<256):n=(k:Int)↔n.toNat.toUInt8=UInt8.ofNat k:=by
 rw[<-UInt8.toNat_inj];have b:(UInt8.ofNat k).toNat=k:=by simp[*]
 have a:n.toNat.toUInt8.toNat=n.toNat:=by simp[*]
 grind
theorem zU{n:Int}(a:0<=n)(b:n<256):Ch n=true↔(97<=n/\n<=122)\/(65<=n/\n<=90)\/(48<=n/\n<=57)\/n=95\/n=45\/n=58\/n=35\/n=37\/n=64\/n=61:=by have q:=decide_eq_decide.1 (ge_u8 a b (show 97<256 by omega));have e:=decide_eq_decide.1 (le_u8 a b (show 122<256 by omega));have i:=decide_eq_decide.1 (ge_u8 a b (show 65<256 by omega));have j:=decide_eq_decide.1 (le_u8 a b (show 90<256 by omega));have o:=decide_eq_decide.1 (ge_u8 a b (show 48<256 by omega));have f:=decide_eq_decide.1 (le_u8 a b (show 57<256 by omega));have p:=rK a b (show 95<256 by omega);have c:=rK a b (show 45<256 by omega);have m:=rK a b (show 58<256 by omega);have h:=rK a b (show 35<256 by omega);have k:=rK a b (show 37<256 by omega);have d:=rK a b (show 64<256 by omega);have l:=rK a b (show 61<256 by omega);unfold Ch il;grind
theorem QR{n:Int}(c:0<=n)(a:n<256)(h:¬((97<=n/\n<=122)\/(65<=n/\n<=90)\/(48<=n/\n<=57)\/n=95\/n=45\/n=58\/n=35\/n=37\/n=64\/n=61)):Ch n=false:=by
 cases b:Ch n;·rfl
 ·exact absurd ((zU c a).1 b) h
theorem seven_ix{n:Int}(a:0<=n)(d:n<256):0<=ixB [95,45,58,35,37,64,61] n.toNat.toUInt8↔(n=95\/n=45\/n=58\/n=35\/n=37\/n=64\/n=61):=by
 have p:=rK a d (show 95<256 by omega);have g:=rK a d (show 45<256 by omega);have o:=rK a d (show 58<256 by omega);have i:=rK a d (show 35<256 by omega);have k:=rK a d (show 37<256 by omega);have j:=rK a d (show 64<256 by omega);have m:=rK a d (show 61<256 by omega);generalize n.toNat.toUInt8=c at*;have f:∀l:List UInt8,0<=ixB l c↔c∈l:=by intro l;induction l with|nil=>simp[ixB]|cons b l h=>simp[ixB,];grind
 simp_all
@[go_sem]theorem AX(n:Int)(c:0<=n)(b:n<256):res Γ 65 [.int .u8 n]=some [.bool (Ch n)]:=by
  have e:=seven_ix c b;have f:=zU c b;refine ae (fn:=nk) rfl rfl ?_;repeat'(first|(simp(disch:=first|exact Dq|fail)only[go_sem])|refine aP (λa=>?_) (λa=>?_)|refine cM (λa=>?_) (λa=>?_)|refine cK (λa=>?_) (λa=>?_))
  simp(disch:=first|exact Dq|fail)only[go_sem,nk];repeat'(first|(simp(disch:=first|exact Dq|fail)only[go_sem])|refine aP (λa=>?_) (λa=>?_)|refine cM (λa=>?_) (λa=>?_)|refine cK (λa=>?_) (λa=>?_))
  all_goals grind
@[go_sem]theorem Bo(n:Int)(c:0<=n)(b:n<256):res Γ 43 [.int .u8 n]=some [.bool (Ch n)]:=by
  have ht:=zU c b;refine ae (fn:=Cv) rfl rfl ?_;repeat'(first|(simp(disch:=first|exact Dq|fail)only[go_sem,Cv])|refine aP (λa=>?_) (λa=>?_)|refine cM (λa=>?_) (λa=>?_)|refine cK (λa=>?_) (λa=>?_))
  all_goals grind
theorem MP{s:List UInt8}{i:Nat}(h:i<s.length):(s.take (i+1)).drop i=[s.getD i 0]:=by rw[List.take_add_one,List.getElem?_eq_getElem h,List.drop_append_of_le_length (by grind),List.drop_eq_nil_of_le (by grind)];grind
theorem PR{c:UInt8}(h:c≠46):splitB 46 [c]=[[c]]:=by simp[splitB,h]
theorem Kf{c:UInt8}:Ch (byt [c] 0)=il c:=by rw[td];rfl
@[go_sem]theorem Is(c:UInt8):res Γ 56 [.str [c]]=some [.bool (il c)]:=by
 have d:0<=byt [c] 0:=fk;have b:byt [c] 0<256:=by have :=@qr [c] 0;omega
 by_cases h:c=46
 ·subst h;have e:splitB 46 [46]=[[],[]]:=by rfl
  refine ae (fn:=lh) rfl rfl ?_;simp(disch:=first|exact Dq|fail)only[go_sem,lh,e];rw[aa (L:=fo) rfl];simp(disch:=first|exact Dq|fail)only[go_sem,strs,List.map_cons,List.map_nil,sW,PV.cells];rfl
 ·refine ae (fn:=lh) rfl rfl ?_;simp(disch:=first|exact Dq|fail)only[go_sem,lh,PR h];rw[aa (L:=fo) rfl];simp(disch:=first|exact Dq|fail)only[go_sem,strs,List.map_cons,List.map_nil,sW,PV.cells,List.cons_ne_nil];rw[aa (L:=fT) rfl];cases a:il c;·simp(disch:=first|exact Dq|fail)only[go_sem,Kf,a]
  ·simp(disch:=first|exact Dq|fail)only[go_sem,Kf,a];rw[aa (L:=fT) rfl];simp(disch:=first|exact Dq|fail)only[go_sem];rw[aa (L:=fo) rfl];simp(disch:=first|exact Dq|fail)only[go_sem]
def ixP(p:UInt8->Bool):List UInt8->Int|[]=>-1|b::l=>if p b then 0 else if ixP p l=-1 then-1 else ixP p l+1
theorem vX{p:UInt8->Bool}:∀{s:List UInt8},(∀j,j<s.length->p (s.getD j 0)=false)->ixP p s=-1
 |[],_=>rfl|b::l,h=>by
  have a:=h 0 (by simp);have :=vX (s:=l) (p:=p) λj e=>by have :=h (j+1) (by grind);grind
  simp[]at a;simp[ixP,a,this]
theorem Eh{p:UInt8->Bool}:∀{s:List UInt8}{i:Nat},i<s.length->p (s.getD i 0)=true->(∀j,j<i->p (s.getD j 0)=false)->ixP p s=i
 |[],_,h,_,_=>by grind|b::l,0,_,h,_=>by simp[]at h;simp[ixP,h]|b::l,i+1,hi,h,d=>by
  have a:=d 0 (by omega);have :=Eh (s:=l) (p:=p) (i:=i) (by grind) (by grind) λj f=>by grind
  simp[]at a;simp only[ixP,a,this,];rfl
theorem GB{p:UInt8->Bool}:∀{s:List UInt8},-1<=ixP p s/\ixP p s<s.length|[]=>by simp[ixP]|b::l=>by have :=GB (p:=p) (s:=l);simp[ixP,];grind
theorem get_mk(s:List UInt8)(j:Nat):(⟨s.toArray⟩:ByteArray).get! j=s.getD j 0:=by
 simp[ByteArray.get!,];by_cases h:j<s.length;·grind
 ·simp[h];rfl
theorem BK{s:List UInt8}{i:Nat}(h:(s.getD i 0).toNat<128):jc s i=((s.getD i 0).toNat,1):=by unfold jc Go.Utf8.decode;simp[get_mk,];grind
theorem NW{s:List UInt8}{i:Nat}(hi:i<s.length)(h:¬(s.getD i 0).toNat<128):128<=(jc s i).1/\(jc s i).1<1114112/\1<=(jc s i).2/\i+(jc s i).2<=s.length/\∀j,j<(jc s i).2->128<=(s.getD (i+j) 0).toNat:=by
 have a:128<=(65533:Nat)/\(65533:Nat)<1114112/\1<=1/\i+1<=s.length/\∀j,j<1->128<=(s.getD (i+j) 0).toNat:=by grind
 have f:(⟨s.toArray⟩:ByteArray).size=s.length:=by rfl
 unfold jc Go.Utf8.decode;simp only[get_mk,Nat.add_zero,];rw[if_neg h];have c:∀k,(decide (i+k<s.length)&&(s.getD (i+k) 0).toNat/64==2)=true->i+k<s.length/\128<=(s.getD (i+k) 0).toNat:=by grind
 split
 ·rename_i b;simp[]at b;have d:=c 1 (by grind);split;·grind
  ·exact a
 ·split
  ·rename_i b;simp[]at b;have d:=c 1 (by grind);have e:=c 2 (by grind);split;·grind
   ·exact a
  ·split
   ·rename_i b;simp[]at b;have d:=c 1 (by grind);have e:=c 2 (by grind);split;·rename_i g;simp[Go.Utf8.valid,]at g;grind
    ·exact a
   ·exact a
theorem enc_last{r:Nat}(h:128<=r):2<=(Go.Utf8.encode r).data.toList.length/\(Go.Utf8.encode r).data.toList.length<=4/\128<=byt (Go.Utf8.encode r).data.toList ((Go.Utf8.encode r).data.toList.length-1):=by
 have b:∀n:Nat,n<64->128<=((UInt8.ofNat (128+n)).toNat:Int):=by intro n g;simp;omega
 unfold Go.Utf8.encode;have f:∀c:Nat,¬c<128->2<=(if c<128 then(⟨#[UInt8.ofNat c]⟩:ByteArray)else if c<2048 then⟨#[UInt8.ofNat (192+c/64),UInt8.ofNat (128+c%64)]⟩else if c<65536 then⟨#[UInt8.ofNat (224+c/4096),UInt8.ofNat (128+c/64%64),UInt8.ofNat (128+c%64)]⟩else⟨#[UInt8.ofNat (240+c/262144),UInt8.ofNat (128+c/4096%64),UInt8.ofNat (128+c/64%64),UInt8.ofNat (128+c%64)]⟩).data.toList.length/\(if c<128 then(⟨#[UInt8.ofNat c]⟩:ByteArray)else if c<2048 then⟨#[UInt8.ofNat (192+c/64),UInt8.ofNat (128+c%64)]⟩else if c<65536 then⟨#[UInt8.ofNat (224+c/4096),UInt8.ofNat (128+c/64%64),UInt8.ofNat (128+c%64)]⟩else⟨#[UInt8.ofNat (240+c/262144),UInt8.ofNat (128+c/4096%64),UInt8.ofNat (128+c/64%64),UInt8.ofNat (128+c%64)]⟩).data.toList.length<=4/\128<=byt (if c<128 then(⟨#[UInt8.ofNat c]⟩:ByteArray)else if c<2048 then⟨#[UInt8.ofNat (192+c/64),UInt8.ofNat (128+c%64)]⟩else if c<65536 then⟨#[UInt8.ofNat (224+c/4096),UInt8.ofNat (128+c/64%64),UInt8.ofNat (128+c%64)]⟩else⟨#[UInt8.ofNat (240+c/262144),UInt8.ofNat (128+c/4096%64),UInt8.ofNat (128+c/64%64),UInt8.ofNat (128+c%64)]⟩).data.toList ((if c<128 then(⟨#[UInt8.ofNat c]⟩:ByteArray)else if c<2048 then⟨#[UInt8.ofNat (192+c/64),UInt8.ofNat (128+c%64)]⟩else if c<65536 then⟨#[UInt8.ofNat (224+c/4096),UInt8.ofNat (128+c/64%64),UInt8.ofNat (128+c%64)]⟩else⟨#[UInt8.ofNat (240+c/262144),UInt8.ofNat (128+c/4096%64),UInt8.ofNat (128+c/64%64),UInt8.ofNat (128+c%64)]⟩).data.toList.length-1):=by
  intro c d;rw[if_neg d];split;·exact⟨by simp,by simp,b _ (by omega)⟩
  ·split;·exact⟨by simp,by simp,b _ (by omega)⟩
   ·exact⟨by simp,by simp,b _ (by omega)⟩
 by_cases e:Go.Utf8.valid (r:Int)=true;·simp_all
 ·simp[e];exact f 65533 (by omega)
def chrB(chars:List UInt8):List Bool:=(List.range 256).map λi=>chars.any λc=>c.toNat==i
theorem vR{a}:(chrB a).length=256:=by simp[chrB]
theorem chrB_get{a:List UInt8}{i:Nat}(h:i<256):(chrB a).getD i false=a.any λc=>c.toNat==i:=by simp[chrB,h]
theorem chrB_set{a:List UInt8}{c:UInt8}:(chrB a).set c.toNat true=chrB (a++[c]):=by
 apply List.ext_getElem;·simp[chrB]
 ·intro i e d;rw[List.getElem_set];simp[chrB,];grind
theorem sC(s:List UInt8)(q:s.length<1000000000)(j:∀b∈s,b.toNat<128)(Q:Out->Prop):∀(c a:List UInt8)(i:Nat),s.drop i=c->a.length=i->a++c=s->(Q (.nrm,[(2,.bx 0 0)],[.box ((cv (chrB s)).map .p)]))->Wp Γ dl [(0,.p (.str s)),(2,.bx 0 0),(4,.p (.int .i64 (i:Int)))] [.box ((cv (chrB a)).map .p)] (aW [2] 0 Q):=by intro c;induction c with
 |nil=>
  intro a i g h d k;have f:s.length<=i:=by grind
  rw[List.append_nil]at d;subst d;rw[aa (L:=dl) rfl];simp(disch:=first|exact Dq|fail)only[go_sem];grind|cons b c o=>
  intro a i g h d k;have f:i<s.length:=by grind
  have m:=j b (by grind);have e:byt s i=b.toNat:=by rw[List.drop_eq_getElem_cons f]at g;cases g;simp[byt,List.getElem?_eq_getElem f]
  have n:=@vR a;rw[aa (L:=dl) rfl];simp(disch:=first|exact Dq|fail)only[go_sem,e,chrB_set];grind
@[go_sem]theorem PJ(s:List UInt8)(d:s.length<1000000000)(c:∀b∈s,b.toNat<128):res Γ 84 [.str s]=some [.agg (cv (chrB s)),.bool true]:=by
 have f:=@vR s;have a:JV=cv (chrB []):=by
  have e:List.replicate 256 false=chrB []:=by decide+kernel
  rw[<-e];unfold JV cv;rw[List.map_replicate]
 refine ae (fn:=strings_makeASCIISet) rfl rfl ?_;simp(disch:=first|exact Dq|fail)only[go_sem,strings_makeASCIISet];rw[a];refine sC s d c _ s [] 0 rfl rfl rfl ?_;simp(disch:=first|exact Dq|fail)only[go_sem]
@[go_sem]theorem res_contains(l:List Bool)(c:Int)(d:l.length=256)(b:0<=c)(e:c<256):res Γ 83 [.ptr (cv l),.int .u8 c]=some [.bool (l.getD c.toNat false)]:=by refine ae (fn:=cO) rfl rfl ?_;simp(disch:=first|exact Dq|fail)only[go_sem,cO]
theorem ixB_none{s:List UInt8}{c:UInt8}:(∀b∈s,b≠c)->ixB s c=-1:=by induction s with|nil=>intro _;rfl|cons b l e=>
  intro h;have d:(b==c)=false:=by grind
  simp[ixB,d,e λx f=>h x (by grind)]
theorem AF{s:List UInt8}{c:Int}{n:Nat}(e:∀b∈s,b.toNat<128)(f:128<=c)(i:c<256):ixB (s.drop n) c.toNat.toUInt8=-1:=by apply ixB_none;intro b d h;have :=e b (List.mem_of_mem_drop d);rw[h]at this;simp at this;omega
def validR(r:Int):Bool:=decide ((0<=r/\r<55296)\/(57343<r/\r<=1114111))
@[go_sem]theorem res_ValidRune(r:Int):res Γ 89 [.int .i32 r]=some [.bool (validR r)]:=by
 refine ae (fn:=dK) rfl rfl ?_;repeat'(first|(simp(disch:=first|exact Dq|fail)only[go_sem,dK])|refine aP (λb=>?_) (λb=>?_)|refine cM (λb=>?_) (λb=>?_)|refine cK (λb=>?_) (λb=>?_))
 all_goals(try simp[validR])
 all_goals grind
theorem zV(s:List UInt8)(a:s.length<1000000000)(f:∀b∈s,b.toNat<128)(Q:Out->Prop):∀(k i:Nat),i+k=s.length->(Q (.nrm,[],[.box (bX s s.length)]))->Wp Γ eG [(175,.bx 0 0)] [.box (bX s i)] (aW [] 9 Q):=by intro k;induction k with
 |zero=>
  intro i hi d;obtain rfl:i=s.length:=by omega
  rw[aa (L:=eG) rfl];simp(disch:=first|exact Dq|fail)only[go_sem];grind|succ k h=>intro i hi d;have c:(s.getD i 0).toNat<128:=f _ (by grind);have e:=BK c;rw[aa (L:=eG) rfl];simp(disch:=first|exact Dq|fail)only[go_sem,e];grind
theorem wE(s c:List UInt8)(a:Nat)(l:s.length<1000000000)(e:∀b∈s,b.toNat<128)(m:a<c.length)(d:c.length<=4)(f:128<=byt c a)(Q:Out->Prop)(o:Q (.nrm,[],[]))(q:Q (.ret,[(4,.p (.int .i64 (-1)))],[])):Wp Γ eI [(0,.p (.str s)),(7,.p (.str c)),(8,.p (.int .i64 (a:Int))),(9,.p (.int .i64 (a:Int)))] [] (aW [] 1 Q):=by
 have i:=@qr c a;by_cases h:a<s.length
 ·have g:byt s a<128:=by have :=e _ (List.getElem_mem h);simp[byt,List.getElem?_eq_getElem h,];omega
  have j:=AF (n:=(((a:Nat):Int)+1).toNat) e f (by omega);rw[aa (L:=eI) rfl];simp(disch:=first|exact Dq|fail)only[go_sem,j];grind
 ·rw[aa (L:=eI) rfl];simp(disch:=first|exact Dq|fail)only[go_sem];grind
set_option maxRecDepth 100000 in
theorem rk(s:List UInt8)(r:Nat)(f:s.length<1000000000)(d:∀b∈s,b.toNat<128)(i:128<=r)(g:r<1114112):res Γ 47 [.str s,.int .i32 r]=some [.int .i64 (-1)]:=by
 have h:=enc_last i;refine ae (fn:=dw) rfl rfl ?_;simp(disch:=first|exact Dq|fail)only[go_sem,dw];refine aP (λc=>?_) (λc=>?_);·simp(disch:=first|exact Dq|fail)only[go_sem];refine zV s f d _ s.length 0 (by omega) ?_;simp(disch:=first|exact Dq|fail)only[go_sem]
 ·simp(disch:=first|exact Dq|fail)only[go_sem];have a:=@xp;refine a ?_ ?_<;>clear a<;>intro c;·simp(disch:=first|exact Dq|fail)only[go_sem]
  ·simp(disch:=first|exact Dq|fail)only[go_sem];have e:(((Go.Utf8.encode (r:Int)).data.toList.length:Nat):Int)-1=(((Go.Utf8.encode (r:Int)).data.toList.length-1:Nat):Int):=by omega
   rw[e];refine wE s _ _ f d (by omega) (by omega) h.2.2 _ ?_ ?_;·simp(disch:=first|exact Dq|fail)only[go_sem]
   rfl
set_option maxRecDepth 20000 in
theorem qG(s:List UInt8)(r:Nat)(a:r<128):res Γ 47 [.str s,.int .i32 r]=some [.int .i64 (ixB s r.toUInt8)]:=by refine ae (fn:=dw) rfl rfl ?_;simp(disch:=first|exact Dq|fail)only[go_sem,dw,wrap_u8]
theorem Ap(s a:List UInt8)(r:s.length<1000000000)(Q:Out->Prop):∀(k i:Nat),i+k=s.length->(∀j,j<i->a.contains (s.getD j 0)=false)->(ixP a.contains s<0->Q (.nrm,[],[.box ((cv (chrB a)).map .p)]))->(0<=ixP a.contains s->Q (.ret,[(4,.p (.int .i64 (ixP a.contains s)))],[.box ((cv (chrB a)).map .p)]))->Wp Γ fH [(0,.p (.str s)),(6,.bx 0 0),(8,.p (.int .i64 (i:Int)))] [.box ((cv (chrB a)).map .p)] (aW [] 0 Q):=by have q:=@vR a;intro k;induction k with
 |zero=>
  intro i hi d b f;obtain rfl:i=s.length:=by omega
  rw[aa (L:=fH) rfl];simp(disch:=first|exact Dq|fail)only[go_sem];exact b (by rw[vX d];omega)|succ k m=>
  intro i hi d b f;have n:=@fk s i;have l:=@qr s i;have e:(chrB a).getD (byt s i).toNat false=a.contains (s.getD i 0):=by rw[chrB_get (by omega)];simp only[byt,List.contains_eq_any_beq];congr 1;funext c;rw[Bool.eq_iff_iff];simp[];exact⟨λh=>UInt8.toNat_inj.1 h.symm,λh=>by rw[h]⟩
  rw[aa (L:=fH) rfl];simp(disch:=first|exact Dq|fail)only[go_sem,e];refine xp (λg=>?_) (λg=>?_);·simp(disch:=first|exact Dq|fail)only[go_sem];rw[Eh (by omega) g d]at f;grind
  ·simp(disch:=first|exact Dq|fail)only[go_sem];refine m (i+1) (by omega) (λj t=>?_) b f;grind
theorem ixB_mem{s:List UInt8}{c:UInt8}:0<=ixB s c↔s.contains c=true:=by induction s with|nil=>simp[ixB]|cons b l d=>simp[ixB,];grind
theorem AW(s a:List UInt8)(r:s.length<1000000000)(d:a.length<1000000000)(x:∀b∈a,b.toNat<128)(Q:Out->Prop):∀(k i:Nat),i<=s.length->s.length-i<=k->(∀j,j<i->a.contains (s.getD j 0)=false)->(ixP a.contains s<0->∀H,Q (.nrm,[],H))->(0<=ixP a.contains s->∀H,Q (.ret,[(4,.p (.int .i64 (ixP a.contains s)))],H))->Wp Γ cN [(1,.p (.str a)),(45,.bx 0 0)] [.box (bX s i)] (aW [] 2 Q):=by intro k;induction k with
 |zero=>
  intro i hi q l g f;obtain rfl:i=s.length:=by omega
  rw[aa (L:=cN) rfl];simp(disch:=first|exact Dq|fail)only[go_sem];exact g (by rw[vX l];omega) _|succ k o=>
  intro i hi q l g f;by_cases c:i<s.length
  ·by_cases m:(s.getD i 0).toNat<128
   ·have e:=BK m;rw[aa (L:=cN) rfl];simp(disch:=first|exact Dq|fail)only[go_sem,e,qG];have u:(s.getD i 0).toNat.toUInt8=s.getD i 0:=by simp
    rw[u];refine aP (λd=>?_) (λd=>?_);·simp(disch:=first|exact Dq|fail)only[go_sem];rw[Eh c (ixB_mem.1 d) l]at f;grind
    ·simp(disch:=first|exact Dq|fail)only[go_sem];refine o (i+1) (by omega) (by omega) (λj v=>?_) g f;by_cases h:j=i;·subst h;have :=mt ixB_mem.2 d;grind
     grind
   ·let⟨z,y,g3,w,t⟩:=NW c m;rw[aa (L:=cN) rfl];simp(disch:=first|exact Dq|fail)only[go_sem,rk];refine o _ (by omega) (by omega) (λj v=>?_) g f;by_cases h:j<i;·grind
    ·have :=t (j-i) (by omega);rw[show i+(j-i)=j by omega]at this;grind
  grind
@[go_sem]theorem res_useASCII(n:Int):res Γ 85 [.int .i64 n]=some [.bool (decide (8<n))]:=by refine ae (fn:=strings_shouldUseASCIISet) rfl rfl ?_;simp(disch:=first|exact Dq|fail)only[go_sem,strings_shouldUseASCIISet]
theorem Se{p s}(h:ixP p s<0):ixP p s=-1:=by have :=@GB p s;omega
set_option maxRecDepth 10000 in
theorem Et(s a:List UInt8)(d:s.length<1000000000)(i:2<=a.length)(c:a.length<1000000000)(f:∀b∈a,b.toNat<128):res Γ 24 [.str s,.str a]=some [.int .i64 (ixP a.contains s)]:=by
 have g:¬a=[]:=by grind
 have j:=@vR a;refine ae (fn:=strings_IndexAny) rfl rfl ?_;simp(disch:=first|exact Dq|fail)only[go_sem,strings_IndexAny];refine aP (λe=>?_) (λe=>?_)
 ·simp(disch:=first|exact Dq|fail)only[go_sem];refine Ap s a d _ s.length 0 (by omega) (by omega) (λh=>?_) (λh=>?_);·simp(disch:=first|exact Dq|fail)only[go_sem,Se h]
  rfl
 ·simp(disch:=first|exact Dq|fail)only[go_sem];refine AW s a d c f _ s.length 0 (by omega) (by omega) (by omega) (λh H=>?_) (λh H=>?_);·simp(disch:=first|exact Dq|fail)only[go_sem,Se h]
  rfl
theorem set_1add{c:Type}{x:c}{l:List c}{n:Nat}{a:c}:(x::l).set (1+n) a=x::l.set n a:=by grind
theorem qv:List.replicate 257 (PV.bool false)=cv (false::none256):=by unfold none256;rw[<-List.replicate_succ,sw]
theorem kN{b:Bool}{l:List Bool}:cv (b::l)=.bool b::cv l:=rfl
theorem ni{s:List UInt8}{i:Nat}:(byt s i).toNat=(s.getD i 0).toNat:=by rfl
theorem HN(an:Bool)(st:List Bool)(f:st.length=256)(a b:Nat)(j:b<256)(Q:Out->Prop):∀(d k:Nat),a+k+d=b+1->Q (.nrm,[],[.box ((cv (an::jK st a (b+1-a))).map .p)])->Wp Γ fI [(0,.bx 0 0),(2,.p (.int .u8 b)),(6,.p (.int .i64 ((a:Int)+(k:Int))))] [.box ((cv (an::jK st a k)).map .p)] (aW [] 0 Q):=by intro d;induction d with
 |zero=>
  intro k i c;have e:b+1-a=k:=by omega
  rw[e]at c;rw[aa (L:=fI) rfl];simp(disch:=first|exact Dq|fail)only[go_sem];grind|succ d h=>
  intro k i c;have l:(an::jK st a k).length=257:=by rw[List.length_cons,dC,f]
  rw[aa (L:=fI) rfl];simp(disch:=first|exact Dq|fail)only[go_sem,tnA,set_1add];have :=h (k+1) (by omega) c;rw[jK]at this;grind
theorem mo{an:Bool}{st:List Bool}(c:st.length=256){a b:Int}(e:0<=a)(f:a<=b)(g:b<256):resM Γ 1 53 [.bx 0 0,.p (.int .u8 a),.p (.int .u8 b)] [.box ((cv (an::st)).map .p)]=some ([],[.box ((cv (an::jK st a.toNat (b.toNat+1-a.toNat))).map .p)]):=by obtain⟨a,rfl⟩:=Int.eq_ofNat_of_zero_le e;obtain⟨b,rfl⟩:=Int.eq_ofNat_of_zero_le (show 0<=b by omega);refine eK (fn:=glob_piece_fills) rfl rfl ?_;simp(disch:=first|exact Dq|fail)only[go_sem,glob_piece_fills];have :=HN an st c a b (by omega) (Ot 1 glob_piece_fills.results ([],[.box ((cv (an::jK st (a:Int).toNat ((b:Int).toNat+1-(a:Int).toNat))).map .p)])) (b+1-a) 0 (by omega) (by simp(disch:=first|exact Dq|fail)only[go_sem,glob_piece_fills,Int.toNat_natCast]);exact this
theorem xa:ir Γ 1 53=true:=rfl
theorem LT{a b c:UInt8}{r:List UInt8}{acc:List Bool}:dI (a::b::c::r) acc=if b=45 then(if c<a then none else dI r (jK acc a.toNat (c.toNat-a.toNat+1)))else dI (b::c::r) (jK acc a.toNat 1):=by rfl
theorem Gr{a:UInt8}{r:List UInt8}{acc:List Bool}(h:r.length<2):dI (a::r) acc=dI r (jK acc a.toNat 1):=by match r,h with|[],_=>rfl|[b],_=>rfl
theorem drop3{s:List UInt8}{i:Nat}(h:i+2<s.length):s.drop i=s.getD i 0::s.getD (i+1) 0::s.getD (i+2) 0::s.drop (i+3):=by rw[List.drop_eq_getElem_cons (by omega),List.drop_eq_getElem_cons (show i+1<s.length by omega),List.drop_eq_getElem_cons (show i+2<s.length by omega)];grind
theorem drop1{s:List UInt8}{i:Nat}(h:i<s.length):s.drop i=s.getD i 0::s.drop (i+1):=by simp[*]
theorem byt_lt_iff{s:List UInt8}{i j:Nat}:byt s i<byt s j↔s.getD i 0<s.getD j 0:=by rw[UInt8.lt_iff_toNat_lt];unfold byt;omega
theorem wF(s:List UInt8)(u:s.length<900000000)(Q:Out->Prop):∀(n i:Nat)(acc:List Bool),s.length<=i+n->i<=s.length->acc.length=256->(∀H,dI (s.drop i) acc=none->Q (.ret,[(2,.p .nilp),(3,.p (.bool false))],H))->(∀c,dI (s.drop i) acc=some c->Q (.nrm,[(0,.p (.str s)),(4,.bx 0 0)],[.box ((cv (false::c)).map .p)]))->Wp Γ ep [(0,.p (.str s)),(4,.bx 0 0),(5,.p (.int .i64 (i:Int)))] [.box ((cv (false::acc)).map .p)] (aW [0,4] 0 Q):=by intro n;induction n with
 |zero=>
  intro i acc t hi f b a;obtain rfl:i=s.length:=by omega
  rw[aa (L:=ep) rfl];simp(disch:=first|exact Dq|fail)only[go_sem];exact a acc (by rw[List.drop_length];rfl)|succ n l=>
  intro i acc t hi f b a;by_cases g:i<s.length
  ·have b0:=@fk s i;have w:=@qr s i;by_cases q:i+2<s.length
   ·rw[drop3 q,LT]at b a;have v:=@qr s (i+2);by_cases j:byt s (i+1)=45
    ·have d:=(aR 45).1 j;rw[if_pos d]at b a;by_cases m:byt s (i+2)<byt s i;·rw[if_pos (byt_lt_iff.1 m)]at b;rw[aa (L:=ep) rfl];simp(disch:=first|exact Dq|fail)only[go_sem,tn1,tn2];grind
     ·rw[if_neg (λh=>m (byt_lt_iff.2 h))]at b a;have e:=λan=>mo (an:=an) f b0 (show byt s i<=byt s (i+2)by omega) (by omega);have k:(byt s (i+2)).toNat+1-(byt s i).toNat=(s.getD (i+2) 0).toNat-(s.getD i 0).toNat+1:=by rw[ni,ni];unfold byt at m;omega
      rw[aa (L:=ep) rfl];simp(disch:=first|exact Dq|fail)only[go_sem,tn1,tn2,e,xa];rw[k,ni];exact l (i+3) _ (by omega) (by omega) (by rw[dC,f]) b a
    ·have d:=λh=>j ((aR 45).2 h);rw[if_neg d]at b a;have e:=λan=>mo (an:=an) f b0 (Int.le_refl _) (by omega);have k:(byt s i).toNat+1-(byt s i).toNat=1:=by omega
     have r:s.getD (i+1) 0::s.getD (i+2) 0::s.drop (i+3)=s.drop (i+1):=by have :=drop3 q;rw[drop1 g]at this;grind
     rw[r]at b a;rw[aa (L:=ep) rfl];simp(disch:=first|exact Dq|fail)only[go_sem,tn1,e,xa];rw[k,ni];exact l (i+1) _ (by omega) (by omega) (by rw[dC,f]) b a
   ·rw[drop1 g,Gr (by grind)]at b a;have e:=λan=>mo (an:=an) f b0 (Int.le_refl _) (by omega);have k:(byt s i).toNat+1-(byt s i).toNat=1:=by omega
    rw[aa (L:=ep) rfl];simp(disch:=first|exact Dq|fail)only[go_sem,e,xa];rw[k,ni];exact l (i+1) _ (by omega) (by omega) (by rw[dC,f]) b a
  grind
theorem vD(s:List UInt8)(b:s.length<900000000)(h:dI s none256=none):res Γ 54 [.str s]=some [.nilp,.bool false]:=by
 refine ae (fn:=kI) rfl rfl ?_;simp(disch:=first|exact Dq|fail)only[go_sem,kI,qv,fL];refine wF s b _ s.length 0 none256 (by omega) (by omega) dg (λH a=>?_) (λacc a=>?_);·rfl
 grind
theorem Du(s:List UInt8)(b:s.length<900000000){st:List Bool}(h:dI s none256=some st):res Γ 54 [.str s]=some [tokP (false,st),.bool (decide (s≠[]))]:=by
 refine ae (fn:=kI) rfl rfl ?_;simp(disch:=first|exact Dq|fail)only[go_sem,kI,qv,fL];refine wF s b _ s.length 0 none256 (by omega) (by omega) dg (λH a=>?_) (λacc a=>?_);·grind
 ·rw[List.drop_zero,h]at a;cases a;simp(disch:=first|exact Dq|fail)only[go_sem];rfl
theorem jV{r:List UInt8}{x:Tok}(h:cX r=none):(cX r).map (x::·)=none:=by grind
theorem jO{r:List UInt8}{x:Tok}{t:List Tok}(h:cX r=some t):(cX r).map (x::·)=some (x::t):=by grind
theorem kn{s:List UInt8}{i:Nat}{b:UInt8}(h:byt s i≠(b.toNat:Int)):s.getD i 0≠b:=λe=>h ((aR b).2 e)
theorem zp{s:List UInt8}{i:Nat}(h:i<s.length):(s.take ((i:Int)+1).toNat).drop i=[s.getD i 0]:=by rw[tn1];exact MP h
set_option maxRecDepth 10000 in
theorem uU(s:List UInt8)(hs:s.length<900000000)(Q:Out->Prop):∀(n i:Nat)(done:List Tok)(R:Heap),s.length<=i+n->i<=s.length->done.length<=i->(∀H,cX (s.drop i)=none->Q (.ret,[(2,.p (.sl .nil 1 [])),(3,.p (.bool false))],H))->(∀t,cX (s.drop i)=some t->Q (.nrm,[(4,.own 0 (done++t).length)],[.row false 1 (ptrs (done++t))]))->Wp Γ bE [(0,.p (.str s)),(4,.own 0 done.length),(5,.p (.int .i64 (i:Int)))] (.row false 1 (ptrs done)::R) (aW [4] 0 Q):=by intro n;induction n with
 |zero=>
  intro i done R hn hi hd h1 h2;obtain rfl:i=s.length:=by omega
  rw[aa (L:=bE) rfl];simp(disch:=first|exact Dq|fail)only[go_sem];have :=h2 [] (by rw[List.drop_length,cX]);grind|succ n ih=>
  intro i done R hn hi hd h1 h2;by_cases hlt:i<s.length
  ·have b0:=@fk s i;have b1:=@qr s i;have next:∀(j:Nat)(x:Tok)(R:Heap),(∀H,cX (s.drop j)=none->Q (.ret,[(2,.p (.sl .nil 1 [])),(3,.p (.bool false))],H))->(∀t,cX (s.drop j)=some t->Q (.nrm,[(4,.own 0 (done++x::t).length)],[.row false 1 (ptrs (done++x::t))]))->i<j->j<=s.length->Wp Γ bE [(0,.p (.str s)),(4,.own 0 (done.length+1)),(5,.p (.int .i64 (j:Int)))] (.row false 1 (ptrs (done++[x]))::R) (aW [4] 0 Q):=by grind
   rw[drop1 hlt,cX]at h1 h2;have hpl:=@pD done;by_cases e42:byt s i=42;·rw[if_pos ((aR 42).1 e42)]at h1 h2;rw[aa (L:=bE) rfl];simp(disch:=first|exact Dq|fail)only[go_sem,qv,fL,e42];exact next (i+1) _ _ (λH h=>h1 H (jV h)) (λt h=>h2 _ (jO h)) (by omega) (by omega)
   ·rw[if_neg (kn (b:=42) e42)]at h1 h2;by_cases e63:byt s i=63;·rw[if_pos ((aR 63).1 e63)]at h1 h2;have e:=λan=>mo (an:=an) dg (a:=0) (b:=255) (by omega) (by omega) (by omega);rw[aa (L:=bE) rfl];simp(disch:=first|exact Dq|fail)only[go_sem,qv,fL,e63,e,xa,Int.toNat_zero];exact next (i+1) _ _ (λH h=>h1 H (jV h)) (λt h=>h2 _ (jO h)) (by omega) (by omega)
    ·rw[if_neg (kn (b:=63) e63)]at h1 h2;by_cases e91:byt s i=91
     ·rw[if_pos ((aR 91).1 e91)]at h1 h2;have hx:=@uD (s.drop (i+1)) 93;have ex:ixB (s.drop i) 93=if ixB (s.drop (i+1)) 93=-1 then-1 else ixB (s.drop (i+1)) 93+1:=by rw[drop1 hlt,(aR 91).1 e91];simp only[ixB,show((91:UInt8)==93)=false by rfl,Bool.false_eq_true,if_false];simp
      generalize ixB (s.drop (i+1)) 93=x at*;rw[List.length_drop]at hx;have l93:Nat.toUInt8 93=93:=rfl;by_cases hx0:x=-1;·rw[if_pos hx0]at ex;rw[if_pos (by omega)]at h1;rw[aa (L:=bE) rfl];simp(disch:=first|exact Dq|fail)only[go_sem,qv,fL,e91,l93,ex];grind
      ·rw[if_neg hx0]at ex;obtain⟨x,rfl⟩:=Int.eq_ofNat_of_zero_le (show 0<=x by omega);have ea:((i:Int)+((x:Int)+1)).toNat=i+1+x:=by omega
       have ec:(s.take (i+1+x)).drop (i+1)=(s.drop (i+1)).take x:=by rw[List.drop_take,show i+1+x-(i+1)=x by omega]
       rw[Int.toNat_natCast]at h1 h2;cases hc:dI ((s.drop (i+1)).take x) none256 with|none=>have er:=vD _ (by grind) hc;rw[aa (L:=bE) rfl];simp(disch:=first|exact Dq|fail)only[go_sem,qv,fL,e91,l93,ex,tn1,ea,ec,er];grind|some st=>
        have er:=Du _ (by grind) hc;rw[hc]at h1 h2;by_cases h0:x=0;·subst h0;rw[List.take_zero]at er;rw[if_pos (by omega)]at h1;rw[aa (L:=bE) rfl];simp(disch:=first|exact Dq|fail)only[go_sem,qv,fL,e91,l93,ex,tn1,ea,ec,er,ne_eq,not_true_eq_false,List.take_zero];grind
        ·have hne:(s.drop (i+1)).take x≠[]:=λh=>by simp_all
         rw[if_neg (by omega)]at h1 h2;rw[decide_eq_true hne]at er;rw[List.drop_drop]at h1 h2;rw[aa (L:=bE) rfl];simp(disch:=first|exact Dq|fail)only[go_sem,qv,fL,e91,l93,ex,tn1,ea,ec,er,tokP];have :=λR=>next (i+1+(x+1)) (false,st) R (λH h=>h1 H (jV h)) (λt h=>h2 _ (jO h)) (by omega) (by omega);grind
     ·rw[if_neg (kn (b:=91) e91)]at h1 h2;have er:=Is (s.getD i 0);cases hb:il (s.getD i 0);·rw[if_neg (by grind)]at h1;rw[hb]at er;rw[aa (L:=bE) rfl];simp(disch:=first|exact Dq|fail)only[go_sem,qv,fL,zp,er];grind
      ·rw[if_pos hb]at h1 h2;rw[hb]at er;have e:=λan=>mo (an:=an) dg b0 (Int.le_refl _) (by omega);have el:(byt s i).toNat+1-(byt s i).toNat=1:=by omega
       rw[aa (L:=bE) rfl];simp(disch:=first|exact Dq|fail)only[go_sem,qv,fL,zp,er,e,xa];rw[el,ni];exact next (i+1) _ _ (λH h=>h1 H (jV h)) (λt h=>h2 _ (jO h)) (by omega) (by omega)
  grind
theorem nv(s:List UInt8)(b:s.length<900000000)(h:cX s=none):res Γ 35 [.str s]=some [.sl .nil 1 [],.bool false]:=by
 refine ae (fn:=jw) rfl rfl ?_;simp(disch:=first|exact Dq|fail)only[go_sem,jw];refine uU s b _ s.length 0 [] [] (by omega) (by omega) (by simp) (λH a=>?_) (λt a=>?_);·rfl
 grind
theorem tF(s:List UInt8)(c:s.length<900000000){t:List Tok}(h:cX s=some t):res Γ 35 [.str s]=some [.sl .any 1 (ptrs t),.bool true]:=by
 refine ae (fn:=jw) rfl rfl ?_;simp(disch:=first|exact Dq|fail)only[go_sem,jw];refine uU s c _ s.length 0 [] [] (by omega) (by omega) (by simp) (λH a=>?_) (λd a=>?_);·grind
 ·rw[List.drop_zero,h]at a;cases a;have b:=@pD t;simp(disch:=first|exact Dq|fail)only[go_sem]
end Ab
namespace Ab
open Classical in
noncomputable def mtD(T:List Tok)(s:List UInt8):Bool:=decide (Mt T s)
theorem mtD_iff{T s}:mtD T s=true↔Mt T s:=by unfold mtD;simp
noncomputable def dpV(T:List Tok)(s:List UInt8):List Bool:=(List.range (s.length+1)).map λk=>mtD T (s.take k)
theorem rj{T s}:(dpV T s).length=s.length+1:=by simp[dpV]
theorem mZ{T:List Tok}{s:List UInt8}{k:Nat}(h:k<s.length+1):(dpV T s).getD k false=mtD T (s.take k):=by unfold dpV;grind
theorem dpV_nil{s:List UInt8}:dpV [] s=true::List.replicate s.length false:=by refine List.ext_getElem (by rw[rj];simp) λi d e=>?_;simp[dpV,];cases i with
 |zero=>have :mtD [] (s.take 0)=true:=mtD_iff.2 rfl;grind|succ i=>
  rw[rj]at d;have :mtD [] (s.take (i+1))=false:=by
   cases c:mtD [] (s.take (i+1));·rfl
   ·have :=mtD_iff.1 c;have :s.take (i+1)=[]:=this;simp_all
  grind
theorem Qj{T U:List Tok}{s u:List UInt8}(h:Mt T s↔Mt U u):mtD T s=mtD U u:=by
 cases b:mtD T s<;>cases a:mtD U u;·rfl
 ·have :=mtD_iff.2 (h.2 (mtD_iff.1 a));grind
 ·have :=mtD_iff.2 (h.1 (mtD_iff.1 b));grind
 ·rfl
theorem dp_star0{T:List Tok}{t:Tok}{s:List UInt8}(h:t.1=true):(dpV (T++[t]) s).getD 0 false=(dpV T s).getD 0 false:=by rw[mZ (by omega),mZ (by omega)];exact Qj (Ji h)
theorem dp_star{T:List Tok}{t:Tok}{s:List UInt8}{k:Nat}(h:t.1=true)(f:k<s.length):(dpV (T++[t]) s).getD (k+1) false=((dpV T s).getD (k+1) false||(dpV (T++[t]) s).getD k false):=by
 rw[mZ (by omega),mZ (by omega),mZ (by omega)];have :=Pe (ts:=T) (t:=t) (s:=s) h f;cases c:mtD T (s.take (k+1))<;>cases d:mtD (T++[t]) (s.take k)
 ·cases e:mtD (T++[t]) (s.take (k+1));·rfl
  ·rcases this.1 (mtD_iff.1 e)with h|h;·rw[mtD_iff.2 h]at c;grind
   ·rw[mtD_iff.2 h]at d;grind
 ·exact mtD_iff.2 (this.2 (.inr (mtD_iff.1 d)))
 ·exact mtD_iff.2 (this.2 (.inl (mtD_iff.1 c)))
 ·exact mtD_iff.2 (this.2 (.inl (mtD_iff.1 c)))
theorem TP{T:List Tok}{t:Tok}{s:List UInt8}(h:t.1=false):(dpV (T++[t]) s).getD 0 false=false:=by
 rw[mZ (by omega)];cases a:mtD (T++[t]) (s.take 0);·rfl
 ·exact absurd (mtD_iff.1 a) (MC h)
theorem dp_set{T:List Tok}{t:Tok}{s:List UInt8}{k:Nat}(h:t.1=false)(g:k<s.length):(dpV (T++[t]) s).getD (k+1) false=((dpV T s).getD k false&&inT t (s.getD k 0)):=by
 rw[mZ (by omega),mZ (by omega)];have f:s[k]?=some (s.getD k 0):=by grind
 have :=SZ (ts:=T) (t:=t) (s:=s) h f;cases d:mtD T (s.take k)<;>cases e:inT t (s.getD k 0)
 ·cases b:mtD (T++[t]) (s.take (k+1));·rfl
  ·have :=(this.1 (mtD_iff.1 b)).1;rw[mtD_iff.2 this]at d;grind
 ·cases b:mtD (T++[t]) (s.take (k+1));·rfl
  ·have :=(this.1 (mtD_iff.1 b)).1;rw[mtD_iff.2 this]at d;grind
 ·cases b:mtD (T++[t]) (s.take (k+1));·rfl
  ·have :=(this.1 (mtD_iff.1 b)).2;grind
 ·exact mtD_iff.2 (this.2 ⟨mtD_iff.1 d,e⟩)
theorem dp_last{T:List Tok}{s:List UInt8}:(dpV T s).getD s.length false=mtD T s:=by rw[mZ (by omega),List.take_length]
end Ab
namespace Ab
def fD(c:UInt8):Bool:=c==123||c==125||c==44
def bv:List (List UInt8)->List UInt8|[]=>[]|[a]=>a|a::r=>a++44::bv r
theorem jt{a:List UInt8}{r:List (List UInt8)}(h:r≠[]):bv (a::r)=a++44::bv r:=by cases r with|nil=>grind|cons b r=>rfl
def bJ(a b:List (List UInt8)):List (List UInt8):=a.flatMap λx=>b.map (x++·)
theorem dJ(a b:List (List UInt8)):(bJ a b).length=a.length*b.length:=by unfold bJ;induction a with|nil=>simp|cons x a c=>grind
theorem zq(a b c:List (List UInt8)):bJ (bJ a b) c=bJ a (bJ b c):=by unfold bJ;induction a with|nil=>rfl|cons x a d=>rw[List.flatMap_cons,List.flatMap_append,d,List.flatMap_cons];congr 1;rw[List.flatMap_map,List.map_flatMap];congr 1;funext y;simp
theorem oQ(a:List (List UInt8)):bJ a [[]]=a:=by unfold bJ;simp
theorem AQ(a:List (List UInt8)):bJ [[]] a=a:=by unfold bJ;simp
theorem Rs(p:List UInt8)(a:List (List UInt8)):bJ [p] a=a.map (p++·):=by unfold bJ;simp
inductive Exp:List UInt8->List (List UInt8)->Prop|run(p):(∀c∈p,fD c=false)->Exp p [p]|grp(p)(alts:List (List UInt8))(f:List UInt8->List (List UInt8))(u l):(∀c∈p,fD c=false)->alts≠[]->(∀a∈alts,Exp a (f a))->Exp u l->Exp (p++123::(bv alts++125::u)) (bJ [p] (bJ (alts.flatMap f) l))
def scan:Nat->List UInt8->Bool|d,[]=>d==0|d,c::r=>if c==123 then scan (d+1) r else if c==125 then decide (0<d)&&scan (d-1) r else if c==44 then decide (0<d)&&scan d r else scan d r
theorem Rl{c:UInt8}{u:List UInt8}(i:fD c=false)(h:∃l,Exp u l):∃l,Exp (c::u) l:=by let⟨l,h⟩:=h;cases h with
 |run _ e=>exact⟨_,.run (c::u) λx g=>by grind⟩|grp p alts f v m e a b d=>exact⟨_,.grp (c::p) alts f v m (λx g=>by grind) a b d⟩
open Classical in
theorem UB{alts:List (List UInt8)}{u:List UInt8}(c:alts≠[])(h:∀a∈alts,∃l,Exp a l)(b:∃l,Exp u l):∃l,Exp (123::(bv alts++125::u)) l:=by let⟨l,b⟩:=b;refine⟨_,.grp [] alts (λa=>if h:∃l,Exp a l then h.choose else[]) u l (by simp) c (λa d=>?_) b⟩;grind
theorem scan_exp:∀(n:Nat)(s:List UInt8),s.length<=n->∀d,scan d s=true->(d=0->∃l,Exp s l)/\(0<d->∃alts e,alts≠[]/\(∀a∈alts,∃l,Exp a l)/\s=bv alts++125::e/\scan (d-1) e=true):=by intro n;induction n with
 |zero=>intro s y d h;have :s=[]:=List.eq_nil_of_length_eq_zero (by omega);subst this;simp[scan,]at h;subst h;exact⟨λ_=>⟨_,.run [] (by simp)⟩,λh=>absurd h (by omega)⟩|succ n q=>intro s y d h;cases s with
  |nil=>grind|cons c r=>
   simp[]at y;by_cases I:c=123
   ·subst I;simp[scan,]at h;let⟨alts,e,k1,k2,m,o⟩:=(q r (by omega) (d+1) h).2 (by omega);rw[Nat.add_sub_cancel]at o;have E:e.length<=n:=by grind
    let⟨u,t⟩:=q e E d o;refine⟨λf=>?_,λf=>?_⟩;·rw[m];exact UB k1 k2 (u f)
    ·let⟨i,j,K,J,H,C⟩:=t f;cases i with|nil=>grind|cons a p=>
      refine⟨(123::(bv alts++125::a))::p,j,by simp,λx g=>?_,?_,C⟩
      ·rcases List.mem_cons.1 g with rfl|g;·exact UB k1 k2 (J a (by simp))
       grind
      ·rw[m,H];cases p with|nil=>simp[bv]|cons b F=>simp[bv]
   ·by_cases G:c=125;·subst G;simp[scan,]at h;refine⟨λf=>absurd h.1 (by omega),λf=>⟨[[]],r,by simp,λx g=>?_,rfl,h.2⟩⟩;rw[List.mem_singleton]at g;subst g;exact⟨_,.run [] (by simp)⟩
    ·by_cases D:c=44
     ·subst D;simp[scan,]at h;refine⟨λf=>absurd h.1 (by omega),λf=>?_⟩;let⟨alts,e,k1,k2,m,o⟩:=(q r (by omega) d h.2).2 f;refine⟨[]::alts,e,by simp,λx g=>?_,?_,o⟩
      ·rcases List.mem_cons.1 g with rfl|g;·exact⟨_,.run [] (by simp)⟩
       grind
      ·rw[jt k1,m];rfl
     ·have z:(c==123)=false:=by grind
      have A:(c==125)=false:=by grind
      have w:(c==44)=false:=by grind
      have B:fD c=false:=by simp[fD,z,A,w]
      simp[scan,z,A,w,Bool.false_eq_true,if_false]at h;let⟨u,t⟩:=q r (by omega) d h;refine⟨λf=>Rl B (u f),λf=>?_⟩;let⟨alts,e,k1,k2,m,o⟩:=t f;cases alts with|nil=>grind|cons a p=>
       refine⟨(c::a)::p,e,by simp,λx g=>?_,?_,o⟩
       ·rcases List.mem_cons.1 g with rfl|g;·exact Rl B (k2 a (by simp))
        grind
       ·rw[m];cases p with|nil=>rfl|cons b F=>rfl
theorem Ic{s:List UInt8}(h:scan 0 s=true):∃l,Exp s l:=(scan_exp s.length s (Nat.le_refl _) 0 h).1 rfl
theorem CL{s:List UInt8}{l:List (List UInt8)}(h:Exp s l):0<l.length:=by induction h with|run=>simp|grp p alts f u l j i d _ e b=>
  rw[dJ,dJ];have :0<(alts.flatMap f).length:=by cases alts with|nil=>grind|cons a c=>grind
  simp_all
end Ab
namespace Ab
def single(c:UInt8):Tok:=(false,jK none256 c.toNat 1)
theorem Ru{c x:UInt8}:inT (single c) x=(c==x):=by unfold inT single;rw[xR dg,wC,Bool.false_or]
theorem scan_lit{c:UInt8}{d:Nat}{r:List UInt8}(h:fD c=false):scan d (c::r)=scan d r:=by simp[fD,]at h;let⟨⟨e,f⟩,b⟩:=h;simp[scan,e,f,b,]
theorem Ct{d:Nat}:∀{p r:List UInt8},(∀c∈p,fD c=false)->scan d (p++r)=scan d r|[],_,_=>rfl|c::p,r,h=>by rw[List.cons_append,scan_lit (h c (by simp)),Ct λx b=>h x (by grind)]
theorem Eu{d:Nat}:∀{alts:List (List UInt8)}{r:List UInt8},(∀a∈alts,∀d r,scan d (a++r)=scan d r)->scan (d+1) (bv alts++r)=scan (d+1) r
 |[],_,_=>rfl|[a],r,h=>h a (by simp) _ _|a::b::s,r,h=>by
  rw[jt (by simp),List.append_assoc,h a (by simp),List.cons_append];have :scan (d+1) (44::(bv (b::s)++r))=scan (d+1) (bv (b::s)++r):=by rfl
  rw[this,Eu λx f=>h x (by grind)]
theorem exp_scan{u:List UInt8}{l:List (List UInt8)}(h:Exp u l):∀d r,scan d (u++r)=scan d r:=by induction h with|run p b=>exactλd r=>Ct b|grp p alts f u l b j i _ g c=>
  intro d r;rw[List.append_assoc,Ct b,List.cons_append];have e:scan d (123::((bv alts++125::u)++r))=scan (d+1) ((bv alts++125::u)++r):=by rfl
  rw[e,List.append_assoc,Eu g,List.cons_append];have k:scan (d+1) (125::(u++r))=scan d (u++r):=by rfl
  grind
theorem za{s:List UInt8}{l:List (List UInt8)}(h:Exp s l):scan 0 s=true:=by have :=exp_scan h 0 [];rw[List.append_nil]at this;rw[this];rfl
theorem lex3{P:Nat->Nat->Nat->Prop}(h:∀a b c,(∀f e d,f<a->P f e d)->(∀e d,e<b->P a e d)->(∀d,d<c->P a b d)->P a b c):∀a b c,P a b c:=by intro a;induction a using Nat.strongRecOn with|ind a k=>intro b;induction b using Nat.strongRecOn with|ind b i=>intro c;induction c using Nat.strongRecOn with|ind c j=>grind
theorem toks_len:∀(n:Nat){s:List UInt8}{t:List Tok},s.length<=n->cX s=some t->(∀x∈t,x.2.length=256)/\t.length<=s.length:=by intro n;induction n with
 |zero=>intro s t f h;have :s=[]:=List.eq_nil_of_length_eq_zero (by omega);subst this;rw[cX]at h;grind|succ n k=>intro s t f h;cases s with
  |nil=>grind|cons c r=>
   rw[List.length_cons]at f;have a:∀(x:Tok)(d:List UInt8),x.2.length=256->d.length<=r.length->(cX d).map (x::·)=some t->(∀x∈t,x.2.length=256)/\t.length<=(c::r).length:=by intro x d m l g;obtain⟨u,j,rfl⟩:=Option.map_eq_some_iff.1 g;grind
   rw[cX]at h;split at h;·exact a _ _ dg (Nat.le_refl _) h
   ·split at h;·exact a _ _ (by rw[dC,dg]) (Nat.le_refl _) h
    ·split at h
     ·split at h;·grind
      ·split at h;·grind
       ·rename_i st i;exact a _ _ (by rw[tJ i,dg]) (by simp) h
     ·split at h;·exact a _ _ (by rw[dC,dg]) (Nat.le_refl _) h
      grind
theorem getD_some{T:List Tok}{i:Nat}(h:i<T.length):T[i]?=some (T.getD i (false,[])):=by grind
theorem tokmem{T:List Tok}{i:Nat}(h:i<T.length):T.getD i (false,[])∈T:=by grind
theorem Jg{kk:SK}(T:List Tok)(S:List UInt8)(M:T.length<900000000)(v:∀x∈T,x.2.length=256)(hs:S.length<900000000)(Q:Out->Prop)(s:¬Mt T S->Q (.ret,[(4,.p (.bool false))],[]))(B:∀d st f:Nat,Greedy T S d st f S.length->Q (.nrm,[(5,.p (.sl kk 1 (ptrs T))),(7,.p (.int .i64 (d:Int)))],[])):∀a b c:Nat,∀d st f i:Nat,a=T.length-st->b=S.length-f->c=S.length-i->Greedy T S d st f i->Wp Γ cy [(1,.p (.str S)),(5,.p (.sl kk 1 (ptrs T))),(7,.p (.int .i64 (d:Int))),(8,.p (.int .i64 ((st:Int)-1))),(9,.p (.int .i64 (f:Int))),(10,.p (.int .i64 (i:Int)))] [] (aW [5,7] 0 Q):=by
 refine lex3 λa b c A y z d st f i F G ec g=>?_;have K:=g.hi;have ga:=g.ha;by_cases hi:i<S.length
 ·have b0:=@fk S i;have b1:=@qr S i;have r:=λh=>(g.some h).2.1;have I:=λh=>(g.some h).1;have o:Jn T S d i->0<st->Wp Γ cy [(1,.p (.str S)),(5,.p (.sl kk 1 (ptrs T))),(7,.p (.int .i64 ((st:Int)-1+1))),(8,.p (.int .i64 ((st:Int)-1))),(9,.p (.int .i64 ((f:Int)+1))),(10,.p (.int .i64 ((f:Int)+1)))] [] (aW [5,7] 0 Q):=by intro m n;have u:=IE g n m;have C:=r n;have :=y (S.length-(f+1)) (S.length-(f+1)) (by omega) st st (f+1) (f+1) F rfl rfl u;grind
  have E:Jn T S d i->st=0->Q (.ret,[(4,.p (.bool false))],[]):=by intro m n;subst n;exact s (Ho g m)
  by_cases D:d<T.length;·have w:=getD_some D;have q:=v _ (tokmem D);let⟨an,j,l⟩:∃an j,T.getD d (false,[])=(an,j):=⟨_,_,rfl⟩;rw[l]at w q;dsimp only at q;cases e:an with
   |true=>
    have u:=ID g w (t:=(an,j)) e;have :Wp Γ cy [(1,.p (.str S)),(5,.p (.sl kk 1 (ptrs T))),(7,.p (.int .i64 ((d:Int)+1))),(8,.p (.int .i64 (d:Int))),(9,.p (.int .i64 (i:Int))),(10,.p (.int .i64 (i:Int)))] [] (aW [5,7] 0 Q):=by have :=A (T.length-(d+1)) (S.length-i) (S.length-i) (by omega) (d+1) (d+1) i i rfl rfl rfl u;grind
    rw[aa (L:=cy) rfl];simp(disch:=first|exact Dq|fail)only[go_sem,tokP,l,q,e,kN];grind|false=>
    have J:(S.getD i 0).toNat<j.length:=by rw[q];exact UInt8.toNat_lt _
    have H:(S.getD i 0).toNat<256:=UInt8.toNat_lt _;cases k:j.getD (S.getD i 0).toNat false with|true=>have u:=OT g w (t:=(an,j)) e (c:=S.getD i 0) (by simp[*]) k;have :=z (S.length-(i+1)) (by omega) (d+1) st f (i+1) F G rfl u;rw[aa (L:=cy) rfl];simp(disch:=first|exact Dq|fail)only[go_sem,tokP,l,q,e,kN,ni,k];grind|false=>
     have m:Jn T S d i:=⟨.inr ⟨_,S.getD i 0,w,e,by simp[*],k⟩,hi⟩;by_cases n:st=0;·have :=E m n;rw[aa (L:=cy) rfl];simp(disch:=first|exact Dq|fail)only[go_sem,tokP,l,q,e,kN,ni,k];grind
     ·have :=o m (by omega);have C:=r (by omega);rw[aa (L:=cy) rfl];simp(disch:=first|exact Dq|fail)only[go_sem,tokP,l,q,e,kN,ni,k];grind
  ·have m:Jn T S d i:=⟨.inl (by omega),hi⟩;by_cases n:st=0;·have :=E m n;rw[aa (L:=cy) rfl];simp(disch:=first|exact Dq|fail)only[go_sem];grind
   ·have :=o m (by omega);have C:=r (by omega);rw[aa (L:=cy) rfl];simp(disch:=first|exact Dq|fail)only[go_sem];grind
 ·obtain rfl:i=S.length:=by omega
  rw[aa (L:=cy) rfl];simp(disch:=first|exact Dq|fail)only[go_sem];grind
theorem HE{kk:SK}(T:List Tok)(r:T.length<900000000)(e:∀x∈T,x.2.length=256)(Q:Out->Prop):∀d a:Nat,a+d=T.length->(∀j:Nat,(j=T.length↔∀t∈T.drop a,t.1=true)->j<=T.length->Q (.nrm,[(5,.p (.sl kk 1 (ptrs T))),(7,.p (.int .i64 (j:Int)))],[]))->Wp Γ iG [(5,.p (.sl kk 1 (ptrs T))),(7,.p (.int .i64 (a:Int)))] [] (aW [5,7] 3 Q):=by intro d;induction d with
 |zero=>
  intro a l i;obtain rfl:a=T.length:=by omega
  rw[aa (L:=iG) rfl];simp(disch:=first|exact Dq|fail)only[go_sem];grind|succ d n=>
  intro a l i;have h:a<T.length:=by omega
  have g:=e _ (tokmem h);let⟨an,f,b⟩:∃an f,T.getD a (false,[])=(an,f):=⟨_,_,rfl⟩;rw[b]at g;dsimp only at g;have m:T.drop a=T.getD a (false,[])::T.drop (a+1):=by simp[*]
  rw[b]at m;cases c:an with|true=>rw[aa (L:=iG) rfl];simp(disch:=first|exact Dq|fail)only[go_sem,tokP,b,g,c,kN];refine n (a+1) (by omega) (λj q k=>i j ?_ k);grind|false=>rw[aa (L:=iG) rfl];simp(disch:=first|exact Dq|fail)only[go_sem,tokP,b,g,c,kN];grind
noncomputable def matchB(p s:List UInt8):Bool:=match cX p with|none=>false|some t=>mtD t s
theorem Dk(p s:List UInt8)(f:p.length<900000000)(k:s.length<900000000):res Γ 17 [.str p,.str s]=some [.bool (matchB p s)]:=by unfold matchB;cases d:cX p with
 |none=>have e:=nv p f d;refine ae (fn:=kF) rfl rfl ?_;simp(disch:=first|exact Dq|fail)only[go_sem,kF,e]|some T=>
  have e:=tF p f d;let⟨a,r⟩:=toks_len p.length (Nat.le_refl _) d;refine ae (fn:=kF) rfl rfl ?_;simp(disch:=first|exact Dq|fail)only[go_sem,kF,e];refine Jg T s (by omega) a k _ (λi=>?_) (λb st m g=>?_) _ _ _ 0 0 0 0 rfl rfl rfl IC
  ·have :mtD T s=false:=by
    cases h:mtD T s;·rfl
    ·exact absurd (mtD_iff.1 h) i
   simp(disch:=first|exact Dq|fail)only[go_sem,this]
  ·have q:=g.ha;simp(disch:=first|exact Dq|fail)only[go_sem];refine HE T (by omega) a _ (T.length-b) b (by omega) (λj l n=>?_);simp(disch:=first|exact Dq|fail)only[go_sem];have :=MG g;rw[<-l,<-mtD_iff]at this;cases o:mtD T s;·rw[decide_eq_false];grind
   grind
end Ab
