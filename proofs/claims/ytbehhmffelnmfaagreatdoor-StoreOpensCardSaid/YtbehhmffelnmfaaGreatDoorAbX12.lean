import Derived.Test.YtbehhmffelnmfaaGreatDoorAbX10
import Derived.Deep.AppendSrc
import Derived.Laws.IdiomCopy
import Derived.Lib.ConvBytes
import Derived.MapKept
import Derived.Test.YtbehhmffelnmfaaGreatDoorAbX2
import Derived.ChangeKeysEq
set_option linter.all false
namespace Ab
open Go (Act Addr BinOp Builtin MapEntry Obj Op Operand Program Result Sem TypeDesc TypeId Value World maxLen undef)
section


variable{Γ:Ctx}{N:Names}{P:Program}{w:World}{S:Nat->Prop}{μ:Nat->Value}{H:Heap}
def bytesV(s:List UInt8):List Value:=s.map λb=>.int .u8 b.toNat
theorem px{s:List UInt8}:(bytesV s).length=s.length:=by simp[bytesV]
theorem FY(s:List UInt8):Go.byteCells ⟨s.toArray⟩=bytesV s:=rfl
theorem Of{s:List UInt8}:∀u∈bytesV s,u.oneCell'=true:=by intro u a;obtain⟨_,_,rfl⟩:=List.mem_map.1 a;rfl
theorem Tm{a:TypeId}(b:P.underlying a=some .string)(s:List UInt8):Go.Src P 1 a (.string ⟨s.toArray⟩) s.length (bytesV s) w:=by have h:=Go.Src.ofString (P:=P) w b ⟨s.toArray⟩;rwa[FY,size_mk]at h
theorem vF(t n ty e m:TypeId)(i:Go.TypeInfo)(r:P.underlying t=some (.slice e))(p:P.underlying n=some .string)(hi:P.info? e=some i)(j:i.size=1)(g a c:Nat)(b:Array Value){h:Nat×Nat}(q:w.heap[g]?=some (.cells b m h))(k:h=(0,0)\/b.size<=h.1)(s:List UInt8)(d:a+s.length<=c)(l:a+s.length<=b.size):(Builtin.append_ #[t,n] ty #[.slice (some ⟨g,0,none⟩) a c,.string ⟨s.toArray⟩]).run P w=.ok (.slice (some ⟨g,0,none⟩) (a+s.length) c) (w.setRow g (b.toList.take a++bytesV s++b.toList.drop (a+s.length)).toArray):=by have o:=Tm (P:=P) (w:=w) p s;have f:=dZ P g a m h (bytesV s) 0 b w q k (by rw[px];grind) Of;simp[px]at f;simp[Builtin.append_,Go.run_underlying r,Go.run_underlying p,Go.sizeOf,Go.typeInfo,hi,j,o.len,d,o.cells,Go.Addr.add_lit,f]
theorem oa{t D ty e:TypeId}{i:Go.TypeInfo}{z:Value}{n:Nat}{v:Value}{us:List Value}{s:List UInt8}(K:P.underlying t=some (.slice e))(V:P.underlying D=some .string)(hi:P.info? e=some i)(hz:i.zero=some z)(Z:i.size=1)(T:z.cells.size=1)(U:RowAt w v 1 n us)(hlim:n+s.length<=lim)(hb:i.bytes<=65536):∃I y,(Builtin.append_ #[t,D] ty #[v,.string ⟨s.toArray⟩]).run P w=.ok I y/\RowAt y I 1 (n+s.length) (us++bytesV s)/\y.os=w.os/\y.tape=w.tape/\y.output=w.output/\w.heap.size<=y.heap.size/\(∀g,g<w.heap.size->aO v≠some g->y.heap[g]?=w.heap[g]?)/\(∀g,aO I=some g->aO v=some g\/w.heap.size<=g)/\(s.length=0->I=v):=by
 have L:lim=1073741824:=rfl;have hs:=Tm (P:=P) (w:=w) V s;have r:Go.Src P i.size D (.string ⟨s.toArray⟩) s.length (bytesV s) w:=by grind
 have hl:=@px s;have d:(n+s.length)*i.bytes<=140737488355328:=by calc(n+s.length)*i.bytes<=1073741824*65536:=Nat.mul_le_mul (by omega) hb
   _<=140737488355328:=by simp
 let⟨hul,U⟩:=U;have E:us.length=n:=by omega
 by_cases hm:s.length=0
 ·have O:=List.eq_nil_of_length_eq_zero hm;subst O;obtain⟨a,cap,rfl,F⟩:∃a cap,v=.slice a n cap/\n<=cap:=by grind
  have H:(Builtin.append_ #[t,D] ty #[.slice a n cap,.string ⟨([]:List UInt8).toArray⟩]).run P w=.ok (.slice a n cap) w:=by have hc:=r.cells;have X:=r.len;cases a<;>simp[Builtin.append_,Go.run_underlying K,Go.run_underlying V,Go.sizeOf,Go.typeInfo,hi,X,F,bytesV]at hc⊢<;>simp[hc,Go.storeCells]
  exact⟨_,w,H,⟨by grind,by grind⟩,rfl,rfl,rfl,Nat.le_refl _,λ_ _ _=>rfl,λg q=>.inl q,λ_=>rfl⟩
 ·have p:(us++bytesV s).length=(n+s.length)*1:=by grind
  have Y:∀(f:Nat),f<n+s.length->RowAt (w.drew.alloc (.cells ((us++bytesV s).toArray++Builtin.zeroCells z.cells (Go.grownCap w (n+s.length) f e-(n+s.length))) e)) (.slice (some ⟨w.heap.size,0,none⟩) (n+s.length) (Go.grownCap w (n+s.length) f e)) 1 (n+s.length) (us++bytesV s):=by
   intro f ho;have W:=Go.grownCap_ge w (n+s.length) f e;have A:=Go.grownCap_le_maxLen w (n+s.length) f e (by simp[maxLen];omega);refine⟨p,.inr ⟨w.heap.size,_,_,e,rfl,by omega,⟨_,Go.heap_alloc_new w.drew _,.inl rfl⟩,W,A,?_,?_⟩⟩;·simp[Array.size_append,List.size_toArray,Go.size_zeroCells,T,p];omega
   grind
  have x:∀(o:Obj),(w.drew.alloc o).os=w.os/\(w.drew.alloc o).tape=w.tape/\(w.drew.alloc o).output=w.output/\w.heap.size<=(w.drew.alloc o).heap.size/\(∀g,g<w.heap.size->aO v≠some g->(w.drew.alloc o).heap[g]?=w.heap[g]?)/\∀n c g,aO (.slice (some ⟨w.heap.size,0,none⟩) n c)=some g->aO v=some g\/w.heap.size<=g:=by intro o;refine⟨rfl,rfl,rfl,by simp,λg q _=>(Grows.alloc w.drew o).keep g q,λn c g q=>?_⟩;simp[aO]at q;grind
  rcases U with⟨rfl,a,rfl⟩|⟨g,cap,B,J,rfl,M,q,hnc,A,Q,R⟩
  ·have N:=List.eq_nil_of_length_eq_zero E;subst N;have l:(Builtin.firstCells i.size 0 (.slice a 0 0)).run P w.drew=.ok ([]:List Value).toArray w.drew:=by cases a with|none=>rfl|some b=>exact Go.run_firstCells_some w.drew i.size 0 b 0 0 [] (by simp) (by simp)
   have H:=Go.run_append_grow_src (P:=P) w t D ty e i z K hi hz a 0 0 [] l (.string ⟨s.toArray⟩) s.length (bytesV s) r (by omega) (by omega) (Go.growslice_fits (by omega) d);let⟨r1,r2,r3,r4,r5,r6⟩:=x (.cells (([]++bytesV s).toArray++Builtin.zeroCells z.cells (Go.grownCap w (0+s.length) 0 e-(0+s.length))) e);grind
  ·let⟨fr,q,G⟩:=q;have hbl:∀k,aO (.slice (some ⟨g,0,none⟩) k cap)=some g:=by intro k;simp[aO];grind
   by_cases m:n+s.length<=cap
   ·have H:=vF (ty:=ty) t D e J i K V hi Z g n cap B q (G.or Q) s m (by omega);refine⟨_,_,H,⟨p,.inr ⟨g,cap,_,J,rfl,M,⟨fr,Go.setRow_heap w g B _ J _ q,G⟩,m,A,?_,?_⟩⟩,rfl,rfl,rfl,Nat.le_of_eq setRow_size.symm,λk _ S=>kX (λe=>S (by grind)),λk hk=>.inl ?_,λh=>absurd h hm⟩;all_goals grind
   ·have C:∀(j:Nat)u,us[j]?=some u->w.drew.cell? ((⟨g,0,none⟩:Addr).add j)=some u:=by
     intro j u hj;have :w.cell? ((⟨g,0,none⟩:Addr).add j)=some u:=by rw[Go.Addr.add_lit,Nat.zero_add,Go.cell_of_row w g j B J _ q];grind
     simp[*]
    have l:(Builtin.firstCells i.size n (.slice (some ⟨g,0,none⟩) n cap)).run P w.drew=.ok us.toArray w.drew:=Go.run_firstCells_some w.drew i.size n ⟨g,0,none⟩ n cap us (by grind) C;have H:=Go.run_append_grow_src (P:=P) w t D ty e i z K hi hz (some ⟨g,0,none⟩) n cap us l (.string ⟨s.toArray⟩) s.length (bytesV s) r (by omega) (by omega) (Go.growslice_fits (by omega) d);let⟨r1,r2,r3,r4,r5,r6⟩:=x (.cells ((us++bytesV s).toArray++Builtin.zeroCells z.cells (Go.grownCap w (n+s.length) cap e-(n+s.length))) e);grind
def lx(s:List UInt8):List PV:=s.map λb=>.int .u8 b.toNat
theorem flat_bytes{s:List UInt8}:FlatRel N.fn w S 1 (lx s) (bytesV s):=by
 refine⟨λx f=>?_,λi x j c f d=>?_⟩;·obtain⟨b,_,rfl⟩:=List.mem_map.1 f;exact⟨rfl,λc d=>by simp[PV.cells,]at d;subst d;rfl⟩
 ·simp[lx,]at f;obtain⟨b,g,rfl⟩:=f;cases j with|succ j=>simp[PV.cells]at d|zero=>
   simp[PV.cells,]at d;subst d;have e:(bytesV s).getD (i*1+0) undef=.int .u8 b.toNat:=by simp[bytesV,g]
   rw[e];exact .int _ _
theorem Qo(u:Rel N.fn w S μ H){t O ty e:TypeId}{i:Go.TypeInfo}{z:Value}{x y:Value}{V W:AV}{r:AV×Heap}(X:P.underlying t=some (.slice e))(Y:P.underlying O=some .string)(hi:P.info? e=some i)(U:i.zero=some z)(v:i.size=1)(D:z.cells.size=1)(T:i.bytes<=65536)(E:RelV N.fn w S μ H V x)(hy:RelV N.fn w S μ H W y)(o:vP H V W=some r):∃l j c,(Builtin.append_ #[t,O] ty #[x,y]).run P w=.ok l j/\Step N.fn w S μ H j S c r.2/\RelV N.fn j S c r.2 r.1 l:=by
 unfold vP at o;split at o;rotate_left;·grind
 rename_i s;rw[hy.str_inv];have A:(lx s).length=s.length:=by simp[lx]
 split at o
 ·rename_i m n;simp only[cH]at o;split at o;rotate_left;·grind
  rename_i sz' xs d;simp only[Option.ite_none_right_eq_some,Option.some.injEq]at o;obtain⟨⟨rfl,rfl,b⟩,rfl⟩:=o;have k:rowOf H m xs.length=some (1,xs):=by simp[rowOf,d]
  rw[E.own_inv k];let⟨_,_,us,L,J,h5,_⟩:=u.blk m _ d;rw[List.length_append]at b;have b:xs.length+(lx s).length<=lim:=b;rw[A]at b;let⟨l,j,M,C,Q,R,G,I,F,K,Z⟩:=oa (ty:=ty) X Y hi U v D L b T;show∃l j c,(Builtin.append_ #[t,O] ty #[μ m,.string ⟨s.toArray⟩]).run P w=.ok l j/\Step N.fn w S μ H j S c (H.set m (.row false 1 (xs++lx s)))/\RelV N.fn j S c (H.set m (.row false 1 (xs++lx s))) (.own m (xs++lx s).length) l;have hm:Moves μ H (upd μ m l) (H.set m (.row false 1 (xs++lx s))):=iQ d (by simp) (λh=>Z (by grind));have q:=λg p=>F g (u.lt g p) (λe=>u.apart g (alive_iff.2 ⟨m,_,d,.inr ⟨1,xs,rfl⟩,e⟩) p);have B:FlatRel N.fn j S 1 (xs++lx s) (us++bytesV s):=(FlatRel.append ⟨J,h5⟩ flat_bytes L.1).keep q;have hlt:=(List.getElem?_eq_some_iff.1 d).1;refine⟨l,j,upd μ m l,M,Step.set u d (.inr ⟨1,xs,rfl⟩) Q R G I F hm ⟨by simp,by grind,us++bytesV s,by simp[*],B.1,B.2,λh=>by grind⟩ K,?_⟩;refine .own _ _ _ (by grind) (λf sz2 xs2 h=>?_) ?_;·simp_all
  ·let⟨_,h⟩:=C;rcases h with⟨_,a,h⟩|⟨g,cap,cur,e,h,_⟩<;>rw[h]<;>rfl
 ·rename_i k0;simp only[cH,Option.ite_none_right_eq_some,Option.some.injEq]at o;obtain⟨⟨_,b⟩,rfl⟩:=o;have b:=b;have E:=E.p_inv;cases E with|sl _ _ _ a cap us h1 h2 L J h5 h6 h7 h8=>
  obtain⟨_,rfl,rfl⟩:=J (.inl rfl);have k:RowAt w (.slice none 0 0) 1 0 []:=⟨by simp,.inl ⟨rfl,none,rfl⟩⟩;let⟨l,j,M,C,Q,R,G,I,F,K,Z⟩:=oa (ty:=ty) (s:=s) X Y hi U v D k (by grind) T;have p:Grows w j:=⟨Q,R,G,I,λg p=>F g p (by simp[aO])⟩;rw[Nat.zero_add,List.nil_append]at C;rw[<-A]at C;let⟨c,s1,s2⟩:=fG u p (by simp) b C (flat_bytes.keep (u.keepS p)) (λg p=>by
   rcases K g p with h|h;·simp[aO]at h
   grind);exact⟨l,j,c,M,s1,s2⟩
 grind
end
section


variable{Γ:Ctx}{N:Names}{P:Program}{w:World}{S:Nat->Prop}{μ:Nat->Value}{H:Heap}
theorem Qd(q:Rel N.fn w S μ H){b sz:Nat}{f:Bool}{xs:List PV}(i:H[b]?=some (.row f sz xs))(s:0<xs.length):∃g cap a t us,μ b=.slice (some ⟨g,0,none⟩) xs.length cap/\Jj w g a t sz cap/\xs.length<=cap/\cap<=maxLen/\a.size=cap*sz/\a.toList.take (xs.length*sz)=us/\us.length=xs.length*sz/\FlatRel N.fn w S sz xs us:=by
 let⟨_,_,us,⟨n,o⟩,j,p,_⟩:=q.blk b _ i;rcases o with⟨h,_⟩|⟨g,cap,a,t,k,r,c,d,m,e,l⟩;·omega
 ·exact⟨g,cap,a,t,us,k,c,d,m,e,l,n,j,p⟩
theorem q_wslice(R:Rel N.fn w S μ H){T e:TypeId}{sz:Nat}{x:Value}{B v:AV}{lo hi:Option AV}{j d:Option Value}(G:slT P T=some e)(O:(P.info? e).map (·.size)=some sz)(D:RelV N.fn w S μ H B x)(p:RelO N.fn w S μ H lo j)(o:RelO N.fn w S μ H hi d)(b:km H sz B lo hi=some v):∃u,(Go.Instr.sliceAt T x j d none).run P w=.ok u w/\RelV N.fn w S μ H v u:=by
 unfold km at b;split at b;rotate_left;·grind
 rename_i V n;let⟨r,i,b⟩:=Option.bind_eq_some_iff.1 b;rw[Option.ite_none_right_eq_some]at b;let⟨z,y⟩:=b;let⟨h,E,s⟩:=Option.bind_eq_some_iff.1 y;let⟨l,I,c⟩:=Option.bind_eq_some_iff.1 s;rw[Option.ite_none_right_eq_some,Option.some.injEq]at c;obtain⟨K,rfl⟩:=c;subst z;let⟨f,k,F⟩:=cl i;subst F;let⟨g,cap,J,t,us,A,W,L,Y,e5,e6,e7,e8⟩:=Qd R k (by omega);have q:=D.own_inv i;let⟨Q,b2,Z⟩:=gy (P:=P) (sl:=true) (cap:=cap) p o L E I;rw[q,A];refine⟨.slice (some ⟨g,l*r.1,none⟩) (h-l) (cap-l),?_,.el _ _ _ _ _ (List.getElem?_eq_some_iff.1 k).1 (λX U M C=>?_) rfl⟩
 ·have m:¬cap=l:=by omega
  simp[Go.Instr.sliceAt,Go.Instr.slice,Go.run_underlying (cZ G),Q,run_sizeOf O,m,Go.Addr.add_lit]
 ·rw[k]at C;cases C;exact⟨Nat.le_refl _,λ_=>⟨λhi=>by omega,λ_ _ _ _=>⟨g,cap,A,by simp⟩⟩⟩
theorem FlatRel.take{ν:Nat->Nat}{xs:List PV}{us:List Value}(a:FlatRel ν w S 1 xs us)(k:Nat):FlatRel ν w S 1 (xs.take k) (us.take k):=by
 refine⟨λx h=>a.1 x (List.mem_of_mem_take h),λi x j c hi d=>?_⟩;let⟨e,b⟩:=jB hi;have f:j<1:=by rw[<-(a.1 x (List.mem_of_getElem? b)).1];grind
 have :=a.2 i x j c b d;grind
theorem FlatRel.drop{ν:Nat->Nat}{xs:List PV}{us:List Value}(a:FlatRel ν w S 1 xs us)(k:Nat):FlatRel ν w S 1 (xs.drop k) (us.drop k):=by refine⟨λx h=>a.1 x (List.mem_of_mem_drop h),λi x j c hi b=>?_⟩;rw[List.getElem?_drop]at hi;have :=a.2 (k+i) x j c hi b;grind
theorem win_src(D:Rel N.fn w S μ H){y:Value}{F:AV}{ys:List PV}(G:RelV N.fn w S μ H F y)(a:kx H 1 F=some ys):∃b,Src w y 1 ys.length b/\FlatRel N.fn w S 1 ys b:=by
 unfold kx at a;split at a;·rename_i W n i h;simp only[Option.ite_none_right_eq_some]at a;let⟨⟨K,O,I,J⟩,a⟩:=a;let⟨r,q,a⟩:=Option.bind_eq_some_iff.1 a;simp[]at a;obtain⟨e,rfl⟩:=a;let⟨f,C,T⟩:=cl q;subst T;let⟨g,cap,x,t,us,R,A,U,Z,Y,e6,e7,B⟩:=Qd D C (by omega);cases G with|el _ _ _ _ _ hl z _=>
  let⟨_,v⟩:=z _ _ _ C;obtain⟨X,E,k1,rfl⟩:=(v rfl).2 K O I J;rw[R]at k1;cases k1;rw[<-e]at*;simp only[]at*;have m:((r.2.take h).drop (i-r.2.length)).length=h-(i-r.2.length):=by grind
  refine⟨(us.take h).drop (i-r.2.length),⟨?_,λu p=>?_,.inr ⟨_,_,by rw[m],λj u p=>?_⟩⟩,(B.take h).drop _⟩;·grind
  ·have P:=List.mem_of_mem_take (List.mem_of_mem_drop p);obtain⟨k,M,rfl⟩:=List.getElem_of_mem P;have l:r.2[k]?=some r.2[k]:=List.getElem?_eq_getElem (by omega);have hc:=(B.1 _ (List.mem_of_getElem? l));let⟨c,s⟩:∃c,r.2[k].cells[0]?=some c:=⟨_,List.getElem?_eq_getElem (show 0<r.2[k].cells.length by grind)⟩;have d:=B.2 k _ 0 c l s;rw[Nat.mul_one,Nat.add_zero,List.getD_eq_getElem?_getD,List.getElem?_eq_getElem M]at d;have :=d.one;grind
  ·rw[List.getElem?_drop,List.getElem?_take]at p;split at p;·rename_i L;let⟨V,A,Q⟩:=A;rw[Go.Addr.add_lit,Go.cell_of_row w g _ x t _ A];grind
   grind
 ·exact rO D (by simp) G a
theorem DZ(w:World)(p A ty c:TypeId)(g o d k:Nat)(a:Addr)(e h:Nat)(b:Array Value)(t:TypeId)(cs:List Value){l:Nat×Nat}(x:P.underlying p=some (.slice c))(B:(P.info? c).map (·.size)=some 1)(r:w.heap[g]?=some (.cells b t l))(n:l=(0,0)\/b.size<=l.1)(y:cs.length=Nat.min e d)(f:∀(j:Nat)v,cs[j]?=some v->w.cell? (a.add j)=some v)(q:o+cs.length<=b.size)(u:∀v∈cs,v.oneCell'=true):(Builtin.copy_ #[p,A] ty #[.slice (some ⟨g,o,none⟩) d k,.slice (some a) e h]).run P w=.ok (Go.goInt cs.length) (w.setRow g (b.toList.take o++cs++b.toList.drop (o+cs.length)).toArray):=by have s:=Go.run_loadCells_list (P:=P) w a cs f;have m:=dZ P g o t l cs 0 b w r n (by grind) u;cases z:P.info? c with|none=>grind|some i=>
  have hi:i.size=1:=by grind
  simp[Builtin.copy_,Go.run_underlying x,Builtin.lenOf,Builtin.firstCells,Go.sizeOf,Go.typeInfo,z,hi,<-y,s,m]
theorem x_copy(E:Rel N.fn w S μ H){T T' ty e:TypeId}{x y:Value}{x' y':AV}{ys:List PV}{r:AV×Heap}(hT:slT P T=some e)(hs:(P.info? e).map (·.size)=some 1)(U:RelV N.fn w S μ H x' x)(hy:RelV N.fn w S μ H y' y)(hys:kx H 1 y'=some ys)(o:Hu H 1 x' ys=some r):∃v' q F,(Builtin.copy_ #[T,T'] ty #[x,y]).run P w=.ok v' q/\Step N.fn w S μ H q S F r.2/\RelV N.fn q S F r.2 r.1 v':=by
 let⟨b,⟨s1,s2,s3⟩,s4⟩:=win_src E hy hys;obtain⟨d,xs,l,h,c,s,h0,h1,h2,U,rfl⟩:∃(d:Nat)(xs:List PV)(l h c:Nat),H[d]?=some (.row false 1 xs)/\0<xs.length/\l<=h/\h<=xs.length/\(∀g cap,μ d=.slice (some ⟨g,0,none⟩) xs.length cap->∃c,x=.slice (some ⟨g,l,none⟩) (h-l) c)/\r=(.p (.int .i64 (min ys.length (h-l):Nat)),H.set d (.row false 1 (ji xs l (ys.take (h-l))))):=by
  unfold Hu at o;split at o
  ·rename_i d n;split at o
   ·rename_i sz' xs s;simp[]at o;obtain⟨⟨rfl,rfl,h0⟩,rfl⟩:=o;have M:rowOf H d xs.length=some (1,xs):=by simp[rowOf,s]
    exact⟨d,xs,0,xs.length,0,s,h0,by omega,Nat.le_refl _,λg cap hg=>⟨cap,by rw[U.own_inv M,hg,Nat.sub_zero]⟩,by rfl⟩
   grind
  ·rename_i d n i h;simp only[Option.ite_none_right_eq_some]at o;let⟨⟨k1,k2,k3,k4⟩,o⟩:=o;split at o;·rename_i sz' xs s;simp[]at o;obtain⟨⟨rfl,rfl⟩,rfl⟩:=o;refine⟨d,xs,i-xs.length,h,0,s,by omega,k3,k4,λg cap hg=>?_,rfl⟩;cases U with|el _ _ _ _ _ hl hx0 _=>let⟨_,Y⟩:=hx0 _ _ _ s;obtain⟨g',cap',e1,rfl⟩:=(Y rfl).2 k1 k2 k3 k4;grind
   grind
  grind
 let⟨g,cap,f,t,us,e1,V,e3,e4,e5,e6,e7,e8⟩:=Qd E s h0;obtain⟨c,rfl⟩:=U g cap e1;simp[]at e5 e6 e7 s1;let⟨fr,V,L⟩:=V;have O:(b.take (h-l)).length=min ys.length (h-l):=by grind
 have hpl:(ys.take (h-l)).length=min ys.length (h-l):=by grind
 have Q:l+(b.take (h-l)).length<=f.size:=by grind
 have hspl:(ji xs l (ys.take (h-l))).length=xs.length:=by simp[ji,];omega
 have W:(us.take l++b.take (h-l)++us.drop (l+(b.take (h-l)).length)).length=xs.length:=by grind
 have B:FlatRel N.fn w S 1 (ji xs l (ys.take (h-l))) (us.take l++b.take (h-l)++us.drop (l+(b.take (h-l)).length)):=by unfold ji;rw[hpl,O];refine FlatRel.append (FlatRel.append (e8.take l) (s4.take _) ?_) (e8.drop _) ?_;all_goals grind
 have Z:∀q:World,q.os=w.os->q.tape=w.tape->q.output=w.output->w.heap.size<=q.heap.size->(∀k,k≠g->q.heap[k]?=w.heap[k]?)->(∃m,q.heap[g]?=some (.cells m t fr)/\m.size=f.size/\m.toList.take xs.length=us.take l++b.take (h-l)++us.drop (l+(b.take (h-l)).length))->Step N.fn w S μ H q S (upd μ d (μ d)) (H.set d (.row false 1 (ji xs l (ys.take (h-l))))):=by
  intro q q1 q2 q3 q4 q5⟨m,q6,q7,q8⟩;have I:∀k,k<w.heap.size->aO (μ d)≠some k->q.heap[k]?=w.heap[k]?:=by intro k _ D;rw[e1]at D;simp only[aO]at D;rw[if_neg (by omega)]at D;grind
  have C:=λk J=>I k (E.lt k J) (λe=>E.apart k (alive_iff.2 ⟨d,_,s,.inr ⟨1,xs,rfl⟩,e⟩) J);have hm:Moves μ H (upd μ d (μ d)) (H.set d (.row false 1 (ji xs l (ys.take (h-l))))):=iQ s (by grind) (λ_=>rfl);have hlim:=(E.blk d _ s).2.1;have G:=B.keep C;refine Step.set E s (.inr ⟨1,xs,rfl⟩) q1 q2 q3 q4 I hm ⟨by simp,by grind,_,⟨by grind,.inr ⟨g,cap,m,t,?_,by omega,⟨fr,q6,L⟩,by grind,e4,by grind,by grind⟩⟩,G.1,G.2,λhf=>by grind⟩ (λk h=>.inl h);simp[*]
 have hres:RelV N.fn w S (upd μ d (μ d)) (H.set d (.row false 1 (ji xs l (ys.take (h-l))))) (.p (.int .i64 ((min ys.length (h-l):Nat):Int))) (Go.goInt ((min ys.length (h-l):Nat):Int)):=.p _ _ (.int _ _);by_cases hz:min ys.length (h-l)=0
 ·have hnil:b.take (h-l)=[]:=List.eq_nil_of_length_eq_zero (by grind);obtain⟨a,z,rfl⟩:∃a z,y=.slice a ys.length z:=by rcases s3 with⟨a,z,h,_⟩|⟨K,z,h,_⟩;all_goals grind
  have A:=Go.run_copy_none (P:=P) w T T' ty e (some ⟨g,l,none⟩) a (h-l) c ys.length z (cZ hT) hs hz;grind
 ·obtain⟨K,z,rfl,X⟩:∃K z,y=.slice (some K) ys.length z/\∀(j:Nat)u,b[j]?=some u->w.cell? (K.add j)=some u:=by rcases s3 with⟨a,z,_,h⟩|h;all_goals grind
  have A:=DZ (P:=P) w T T' ty e g l (h-l) c K ys.length z f t (b.take (h-l)) (cZ hT) hs V (L.or (by omega)) (by grind) (λj v hj=>by grind) Q (λv o=>s2 v (List.mem_of_mem_take o));refine⟨_,_,_,A,Z _ rfl rfl rfl (Nat.le_of_eq setRow_size.symm) (λk I=>kX I) ⟨_,Go.setRow_heap w g f _ t _ V,?_,?_⟩,?_⟩;·grind
  ·have eu:us=f.toList.take xs.length:=e6.symm;have hl0:l<=xs.length:=by omega
   have I:l+(b.take (h-l)).length<=xs.length:=by grind
   have a1:f.toList.take l=us.take l:=by grind
   have a2:us.drop (l+(b.take (h-l)).length)=(f.toList.drop (l+(b.take (h-l)).length)).take (xs.length-(l+(b.take (h-l)).length)):=by rw[eu,List.drop_take]
   have a3:(us.take l++b.take (h-l)).length=l+(b.take (h-l)).length:=by grind
   rw[a1,a2];generalize(b.take (h-l))=cs at*;rw[show(us.take l++cs++f.toList.drop (l+cs.length)).toArray.toList=us.take l++cs++f.toList.drop (l+cs.length)from rfl];rw[List.take_append,a3,List.take_of_length_le (by grind)]
  ·rw[O];exact .p _ _ (.int _ _)
end
section


variable{Γ:Ctx}{N:Names}{P:Program}{w:World}{S:Nat->Prop}{μ:Nat->Value}{H:Heap}
theorem IX(w:World)(e:TypeId)(s:ByteArray):Grows w (Go.Lib.bytesWorld w e s):=by
 refine⟨?_,?_,?_,?_,λg a=>Go.Lib.bytesWorld_at_old w e s g a⟩;·rfl
 ·rfl
 ·rfl
 ·rw[Go.Lib.bytesWorld_size];omega
theorem Qu(v:Rel N.fn w S μ H){s d e:TypeId}{x:Value}{u:AV}{r:AV×Heap}(y:strT P s=true)(B:slT P d=some e)(E:P.underlying e=some (.int .u8))(C:RelV N.fn w S μ H u x)(k:sP H u=some r):∃t m a,(Go.convert s d x).run P w=.ok t m/\Step N.fn w S μ H m S a r.2/\RelV N.fn m S a r.2 r.1 t:=by
 unfold sP at k;split at k;rotate_left;·grind
 rename_i l;simp[]at k;obtain⟨i,rfl⟩:=k;have o:l.length<=1073741824:=i;rw[C.str_inv];have b:=Go.Lib.run_convert_string_bytes (P:=P) w s d e ⟨l.toArray⟩ (gT y) (cZ B) E;have h:(⟨l.toArray⟩:ByteArray).size=l.length:=by rfl
 have p:=Go.grownCap_ge w l.length 0 e;have n:=Go.grownCap_le_maxLen w l.length 0 e (by simp[maxLen];omega);have D:(Go.Lib.bytesCells w e ⟨l.toArray⟩).size=Go.grownCap w l.length 0 e:=by simp[Go.Lib.bytesCells,h,];omega
 have z:(Go.Lib.bytesCells w e ⟨l.toArray⟩).toList.take l.length=bytesV l:=by simp only[Go.Lib.bytesCells,Array.toList_append,Array.toList_map];rw[List.take_left' (by simp)];rfl
 have c:(lx l).length=l.length:=by simp[lx]
 have f:RowAt (Go.Lib.bytesWorld w e ⟨l.toArray⟩) (.slice (some ⟨w.heap.size,0,none⟩) l.length (Go.grownCap w l.length 0 e)) 1 (lx l).length (bytesV l):=by
  rw[c];refine⟨by grind,?_⟩;by_cases G:Go.grownCap w l.length 0 e=0;·grind
  ·exact .inr ⟨w.heap.size,_,_,e,rfl,by omega,⟨_,Go.Lib.bytesWorld_at_new w e _,.inr ⟨rfl,by grind⟩⟩,p,n,by grind,by grind⟩
 have j:=IX w e ⟨l.toArray⟩;let⟨a,A,q⟩:=fG v j (by simp) (by grind) f (flat_bytes.keep (v.keepS j)) (λg j=>by simp[aO]at j;grind);rw[c]at q;rw[h]at b;exact⟨_,_,a,b,A,q⟩
end
def rowT(P:Program)(e:TypeId)(sz:Nat):Bool:=match P.info? e with|some i=>i.size==sz&&decide (i.bytes<=65536)&&(match i.zero with|some z=>z.cells.size==sz|none=>false)|none=>false
theorem oS{P e sz}(h:rowT P e sz=true):∃i z,P.info? e=some i/\i.size=sz/\i.bytes<=65536/\i.zero=some z/\z.cells.size=sz:=by unfold rowT at h;grind
section


variable{Γ:Ctx}{N:Names}{P:Program}{w:World}{S:Nat->Prop}{μ:Nat->Value}{H:Heap}
theorem q_appq(l:Rel N.fn w S μ H){t ty e:TypeId}{i:Go.TypeInfo}{z:Value}{sz:Nat}{x y:Value}{D F v:AV}(ht:P.underlying t=some (.slice e))(hi:P.info? e=some i)(Q:i.zero=some z)(B:i.size=sz)(s:z.cells.size=sz)(C:0<sz)(hb:i.bytes<=65536)(A:RelV N.fn w S μ H D x)(M:RelV N.fn w S μ H F y)(q:appqA sz D F=some v):∃u d L,(Builtin.append_ #[t,t] ty #[x,y]).run P w=.ok u d/\Step N.fn w S μ H d L μ H/\RelV N.fn d L μ H v u:=by
 unfold appqA at q;split at q;rotate_left;·grind
 rename_i k sz' k2 Z ys;simp[]at q;obtain⟨⟨hk,W,n⟩,rfl⟩:=q;let⟨J,O,g2⟩:=rO l C M (ys:=ys) (by simp[elemsOf];grind);have A:=A.p_inv;cases A with|sl _ _ _ a cap us h1 h2 h3 h4 h5 h6 h7 h8=>
 have m:cap=0:=by grind
 subst m;have j:RowAt w (.slice a 0 0) sz 0 []:=⟨by simp,.inl ⟨rfl,a,rfl⟩⟩;let⟨K,d,r1,I,R,r4,r5,X,r7,Y,r9⟩:=mg (ty:=ty) ht hi Q B s C j O (by omega) hb;have c:Grows w d:=⟨R,r4,r5,X,λg c=>r7 g c (by cases a<;>simp[aO])⟩;have b:∀g,aO K=some g->w.heap.size<=g:=λg c=>by
  rcases Y g c with h|h;·cases a<;>simp[aO]at h
  grind
 rw[Nat.zero_add,List.nil_append]at I;let⟨μ',G,U⟩:=fG l c C n I (g2.keep (l.keepS c)) b;have f:(H++[Blk.row false sz ys])[H.length]?=some (.row false sz ys):=by simp
 have V:=U.own_inv (r:=(sz,ys)) (by simp[rowOf]);have E:=pj (T:=λg=>S g\/(w.heap.size<=g/\g<d.heap.size)) G.rel f (λg h=>.inl h) (λg h=>.inr ⟨b g (by grind),G.rel.blk_lt f h⟩);rw[<-V]at E;exact⟨K,d,λg=>S g\/(w.heap.size<=g/\g<d.heap.size),r1,.grow l c (λg h=>.inl h) (λg h=>h.elim (λh=>Nat.lt_of_lt_of_le (l.lt g h) c.size) (λh=>h.2)) (λg h=>h.elim .inl (λh=>.inr h.1)),.p _ _ E⟩
end
def KD.desc:KD->TypeDesc|.int k=>.int k|.bool=>.bool|.str=>.string
section


variable{N:Names}{P:Program}{w:World}{S:Nat->Prop}{μ:Nat->Value}{H:Heap}
theorem Mr{ν:Nat->Nat}{kd:KD}{k:PV}{u:Value}(h:rV kd k=true)(a:RelP ν w S k u):Go.MapKept.IsKey kd.desc u:=by cases a<;>cases kd<;>simp[rV,]at h<;>first|exact trivial|exact h
theorem str_beq(a b:List UInt8):((⟨a.toArray⟩:ByteArray)==⟨b.toArray⟩)=(a==b):=by
 by_cases h:a=b;·subst h;rw[(Go.MapKept.bytes_beq _ _).2 rfl];simp
 ·have d:((⟨a.toArray⟩:ByteArray)==⟨b.toArray⟩)=false:=by rw[Bool.eq_false_iff];intro e;apply h;have :=congrArg (λx:ByteArray=>x.data.toList) ((Go.MapKept.bytes_beq _ _).1 e);grind
  grind
def MapRel(ν:Nat->Nat)(w:World)(S:Nat->Prop)(μ:Nat->Value)(H:Heap):List (PV×AV)->List MapEntry->Prop|[],[]=>True|(k,v)::es,e::l=>RelP ν w S k e.key/\v.ok=true/\RelV ν w S μ H v e.val/\MapRel ν w S μ H es l|_,_=>False
theorem MapRel.of{ν:Nat->Nat}:∀{a:List (PV×AV)}{l:List MapEntry},l.length=a.length->(∀(j:Nat)k v,a[j]?=some (k,v)->∃e,l[j]?=some e/\RelP ν w S k e.key/\v.ok=true/\RelV ν w S μ H v e.val)->MapRel ν w S μ H a l
 |[],[],_,_=>trivial|[],_::_,h,_=>by grind|_::_,[],h,_=>by grind|(k,v)::a,e::l,h,g=>by let⟨m,b,d,c,f⟩:=g 0 k v rfl;cases b;exact⟨d,c,f,MapRel.of (by grind) λj k v i=>by simpa using g (j+1) k v (by grind)⟩
theorem MapRel.len{ν:Nat->Nat}:∀{a:List (PV×AV)}{l:List MapEntry},MapRel ν w S μ H a l->l.length=a.length|[],[],_=>rfl|(_,_)::a,e::l,h=>by simp[MapRel.len h.2.2.2]|[],_::_,h=>h.elim|(_,_)::_,[],h=>h.elim
theorem MapRel.get{ν:Nat->Nat}:∀{b:List (PV×AV)}{l:List MapEntry},MapRel ν w S μ H b l->∀(j:Nat)k v,b[j]?=some (k,v)->∃e,l[j]?=some e/\RelP ν w S k e.key/\v.ok=true/\RelV ν w S μ H v e.val
 |[],[],_,j,k,v,a=>by grind|(c,d)::b,e::l,h,j,k,v,a=>by cases j with
  |zero=>simp[]at a;obtain⟨rfl,rfl⟩:=a;exact⟨e,rfl,h.1,h.2.1,h.2.2.1⟩|succ j=>simpa using MapRel.get h.2.2.2 j k v (by grind)
 |[],_::_,h,_,_,_,_=>h.elim|(_,_)::_,[],h,_,_,_,_=>h.elim
theorem pd{ν:Nat->Nat}{kd:KD}{k e:PV}{u g:Value}{b:Bool}(f:rV kd k=true)(d:RelP ν w S k u)(a:RelP ν w S e g)(c:uo k e=some b):Go.Instr.sameNow kd.desc u g=some b:=by
 cases k<;>cases e<;>simp[uo,]at c;·obtain⟨rfl,rfl⟩:=c;cases d;cases a;cases kd<;>simp[rV,]at f;simp[KD.desc,Go.Instr.sameNow]
 ·subst c;cases d;cases a;cases kd<;>simp[rV,]at f;rfl
 ·subst c;cases d;cases a;cases kd<;>simp[rV,]at f;simp[KD.desc,Go.Instr.sameNow,str_beq]
theorem KG{ν:Nat->Nat}{kd:KD}{k:PV}{u:Value}(q:rV kd k=true)(g:RelP ν w S k u):∀{o:List (PV×AV)}{l:List MapEntry}(i:Nat){r:Option AV},MapRel ν w S μ H o l->pZ k o=some r->match r with|none=>Go.Instr.findNow kd.desc u l i=some none|some v=>∃j e,Go.Instr.findNow kd.desc u l i=some (some (i+j,e.val))/\l[j]?=some e/\v.ok=true/\RelV ν w S μ H v e.val/\e.key=u
 |[],[],i,r,_,h=>by simp[pZ,]at h;subst h;rfl|(t,v)::o,e::l,i,r,d,h=>by
  simp[pZ]at h;split at h
  ·rename_i n;simp[]at h;subst h;have m:=pd q g d.1 n;refine⟨0,e,by simp[Go.Instr.findNow,m],rfl,d.2.1,d.2.2.1,?_⟩;have p:=d.1;revert p n g;cases k<;>cases t<;>simp only[uo,Option.ite_none_right_eq_some,Option.some.injEq,reduceCtorEq,false_implies,implies_true];·intro a b c;obtain⟨rfl,f⟩:=b;have f:=eq_of_beq f;subst f;cases a;generalize e.key=z at c;cases c;rfl
   ·intro a b c;have f:=eq_of_beq b;subst f;cases a;generalize e.key=z at c;cases c;rfl
   ·intro a b c;have f:=eq_of_beq b;subst f;cases a;generalize e.key=z at c;cases c;rfl
  ·rename_i n;have m:=pd q g d.1 n;have s:=KG q g (i+1) d.2.2.2 h;cases r with|none=>simpa[Go.Instr.findNow,m]using s|some D=>let⟨j,x,y,C,B⟩:=s;exact⟨j+1,x,by simp[Go.Instr.findNow,m,y];omega,by grind,B⟩
  grind|[],_::_,_,_,d,_=>d.elim|(_,_)::_,[],_,_,d,_=>d.elim
theorem BG:∀{cs:List AV}{a:List (PV×AV)},qR cs=some a->cs=ki a
 |[],a,h=>by simp[qR,]at h;subst h;rfl|[c],a,h=>by cases c<;>simp[qR]at h|c::v::r,a,h=>by cases c with
  |p k=>simp[qR,]at h;obtain⟨b,d,rfl⟩:=h;rw[BG d];rfl|_=>simp[qR]at h
theorem uv:∀(a:List (PV×AV)),qR (ki a)=some a|[]=>rfl|(k,v)::a=>by simp[ki,qR,uv a]
theorem eZ{b:Nat}{a:List (PV×AV)}(h:mapOf H b=some a):H[b]?=some (.box (ak a)):=by
 unfold mapOf at h;split at h;·rename_i cs c;rw[c,BG h];rfl
 grind
theorem Rel.map_of(y:Rel N.fn w S μ H){f:Nat}{d:List (PV×AV)}(h:mapOf H f=some d):∃g b a,μ f=.pointer (some ⟨g,0,none⟩)/\w.heap[g]?=some (.map b a)/\Go.MapKept.Stamped b a/\MapRel N.fn w S μ H d b.toList:=by
 have u:=eZ h;obtain⟨g,q,⟨cs,t,c,l,o,p⟩|⟨s,r,c,l⟩|⟨m,b,a,c,l,i,o,p⟩⟩:=y.blk f _ u;·exact absurd (o .nov (by simp[ak])) (by simp[AV.one])
 ·simp[ak,bX]at c
 ·have e:m=d:=by have :=congrArg (λx=>qR (x.drop 2)) c;simp[ak,uv,]at this;grind
  subst e;exact⟨g,b,a,q,l,i,MapRel.of (by grind) λj k v z=>by grind⟩
theorem RelV.mp_inv{ν:Nat->Nat}{a:Nat}{u:Value}(h:RelV ν w S μ H (.mp a) u):∃g,u=.map (some g)/\a<H.length/\∀cs,H[a]?=some (.box cs)->μ a=.pointer (some ⟨g,0,none⟩):=by cases h with|mp _ g _ d b c=>grind
def mapT(P:Program)(T:TypeId):Option (TypeId×TypeId):=match P.underlying T with|some (.map k e)=>some (k,e)|_=>none
theorem nU{T k e}(h:mapT P T=some (k,e)):P.underlying T=some (.map k e):=by unfold mapT at h;grind
def zeroV(P:Program)(T:TypeId)(zero:List PV):Bool:=match(P.info? T).bind (·.zero),zero with|some z,[p]=>z.oneCell'&&Cg z p|some (.agg cs),zero=>vq cs.toList zero|_,_=>false
theorem q_mget(U:Rel N.fn w S μ H){T k e:TypeId}{kd:KD}{zero:List PV}{a:Bool}{x i:Value}{E J v:AV}{z:Value}(M:mapT P T=some (k,e))(q:P.underlying k=some kd.desc)(I:(Go.zeroValue e).run P w=.ok z w)(B:RelV N.fn w S μ H (mkZ zero) z)(y:RelV N.fn w S μ H E x)(hi:RelV N.fn w S μ H J i)(o:Ni H kd zero a E J=some v):∃u,(Go.Instr.lookup T x i a).run P w=.ok u w/\RelV N.fn w S μ H v u:=by
 have D:=nU M;have n:∀{r:Option AV}{u:Value}{b:Bool},(match r with|none=>b=false/\u=z|some v=>b=true/\RelV N.fn w S μ H v u)->RelV N.fn w S μ H (mres a (mkZ zero) r) (if a then .tuple #[u,.bool b]else u):=by intro r u b h;cases r with
  |none=>
   obtain⟨rfl,rfl⟩:=h;cases a;·exact B
   ·refine .tup _ _ rfl λj c f=>?_;match j,f with|0,f=>simp_all|1,f=>simp[]at f;subst f;exact .p _ _ (.bool _)|j+2,f=>grind
  |some v=>
   obtain⟨rfl,h⟩:=h;cases a;·exact h
   ·refine .tup _ _ rfl λj c f=>?_;match j,f with|0,f=>simp_all|1,f=>simp[]at f;subst f;exact .p _ _ (.bool _)|j+2,f=>grind
 unfold Ni at o;split at o;·rename_i V;simp[ifB_some,]at o;obtain⟨l,rfl⟩:=o;have d:=Mr l hi.p_inv;have y:=y.p_inv;cases y;have m:(Go.Instr.findKey k i []).run P w=.ok none w:=Go.MapKept.run_findKey q rfl;refine⟨if a then .tuple #[z,.bool false]else z,?_,n (r:=none) ⟨rfl,rfl⟩⟩;simp[Go.Instr.lookup,Go.run_underlying D,Go.MapKept.run_checkKey q d,m,I]
 ·rename_i id V;simp[ifB_some,Option.bind_eq_some_iff,]at o;obtain⟨l,es,t,r,m,rfl⟩:=o;have d:=Mr l hi.p_inv;obtain⟨g,rfl,Z,W⟩:=y.mp_inv;let⟨g',Q,C,F,G,_,L⟩:=U.map_of t;rw[W _ (eZ t)]at F;cases F;have s:=KG l hi.p_inv 0 L m;cases r with
  |none=>have m:=Go.MapKept.run_findKey (w:=w) q s;refine⟨if a then .tuple #[z,.bool false]else z,?_,n (r:=none) ⟨rfl,rfl⟩⟩;simp[Go.Instr.lookup,Go.run_underlying D,Go.MapKept.run_getObj_map G,Go.MapKept.run_checkKey q d,m,I]|some R=>let⟨j,en,O,X,Y,K,h5⟩:=s;have m:=Go.MapKept.run_findKey (w:=w) q O;refine⟨if a then .tuple #[en.val,.bool true]else en.val,?_,n (r:=some R) ⟨rfl,K⟩⟩;simp[Go.Instr.lookup,Go.run_underlying D,Go.MapKept.run_getObj_map G,Go.MapKept.run_checkKey q d,m]
 grind
end
section


variable{N:Names}{P:Program}{w w':World}{S S':Nat->Prop}{μ μ':Nat->Value}{H H':Heap}
theorem MapRel.keep{ν:Nat->Nat}(b:∀g,S g->S' g)(c:∀g,S g->w'.heap[g]?=w.heap[g]?)(e:Moves μ H μ' H'):∀{f:List (PV×AV)}{l:List MapEntry},MapRel ν w S μ H f l->MapRel ν w' S' μ' H' f l|[],[],_=>trivial|(_,_)::k,o::n,h=>⟨h.1.keep b c,h.2.1,h.2.2.1.keep b c e,MapRel.keep b c e h.2.2.2⟩|[],_::_,h=>h.elim|(_,_)::_,[],h=>h.elim
theorem key_eq{ν:Nat->Nat}{k f:PV}{u g:Value}(e:RelP ν w S k u)(a:RelP ν w S f g)(c:uo k f=some true):g=u:=by
 cases k<;>cases f<;>simp only[uo,Option.ite_none_right_eq_some,Option.some.injEq,reduceCtorEq]at c;·obtain⟨rfl,b⟩:=c;have b:=eq_of_beq b;subst b;cases e;cases a;rfl
 ·have b:=eq_of_beq c;subst b;cases e;cases a;rfl
 ·have b:=eq_of_beq c;subst b;cases e;cases a;rfl
theorem Uy{ν:Nat->Nat}{kd:KD}{k:PV}{u:Value}{v:AV}{x:Value}(t:rV kd k=true)(m:RelP ν w S k u)(f:v.ok=true)(z:RelV ν w S μ H v x):∀{q:List (PV×AV)}{l:List MapEntry}(i:Nat){d:List (PV×AV)},MapRel ν w S μ H q l->mput k v q=some d->(Go.Instr.findNow kd.desc u l i=some none/\∀e:MapEntry,e.key=u->e.val=x->MapRel ν w S μ H d (l++[e]))\/∃j e,Go.Instr.findNow kd.desc u l i=some (some (i+j,e.val))/\l[j]?=some e/\e.key=u/\∀g:MapEntry,g.key=u->g.val=x->MapRel ν w S μ H d (l.set j g)
 |[],[],i,d,_,h=>by simp[mput,]at h;subst h;exact .inl ⟨rfl,λe E p=>⟨by grind,f,by grind,trivial⟩⟩|(F,G)::q,e::l,i,d,c,h=>by
  simp[mput]at h;split at h;·rename_i n;simp[]at h;subst h;have o:=pd t m c.1 n;exact .inr ⟨0,e,by simp[Go.Instr.findNow,o],rfl,key_eq m c.1 n,λg E p=>⟨by grind,f,by grind,c.2.2.2⟩⟩
  ·rename_i n;obtain⟨B,p,rfl⟩:=Option.map_eq_some_iff.1 h;have o:=pd t m c.1 n;rcases Uy t m f z (i+1) c.2.2.2 p with⟨s,y⟩|⟨j,g,s,y,D,C⟩;·exact .inl ⟨by simpa[Go.Instr.findNow,o]using s,λr a b=>⟨c.1,c.2.1,c.2.2.1,y r a b⟩⟩
   ·exact .inr ⟨j+1,g,by simp[Go.Instr.findNow,o,s];omega,by grind,D,λr a b=>⟨c.1,c.2.1,c.2.2.1,C r a b⟩⟩
  grind|[],_::_,_,_,c,_=>c.elim|(_,_)::_,[],_,_,c,_=>c.elim
theorem Ly{ν:Nat->Nat}{kd:KD}{k:PV}{u:Value}(g:rV kd k=true)(f:RelP ν w S k u):∀{d:List (PV×AV)}{l:List MapEntry}(i:Nat){a:List (PV×AV)},MapRel ν w S μ H d l->Ou k d=some a->(Go.Instr.findNow kd.desc u l i=some none/\a=d)\/∃j e,Go.Instr.findNow kd.desc u l i=some (some (i+j,e.val))/\l[j]?=some e/\MapRel ν w S μ H a (l.eraseIdx j)
 |[],[],i,a,_,h=>by simp[Ou,]at h;subst h;exact .inl ⟨rfl,rfl⟩|(x,v)::d,e::l,i,a,b,h=>by
  simp[Ou]at h;split at h;·rename_i m;simp[]at h;subst h;have c:=pd g f b.1 m;exact .inr ⟨0,e,by simp[Go.Instr.findNow,c],rfl,b.2.2.2⟩
  ·rename_i m;obtain⟨r,q,rfl⟩:=Option.map_eq_some_iff.1 h;have c:=pd g f b.1 m;rcases Ly g f (i+1) b.2.2.2 q with⟨n,rfl⟩|⟨j,p,n,t,s⟩;·exact .inl ⟨by simpa[Go.Instr.findNow,c]using n,rfl⟩
   ·exact .inr ⟨j+1,p,by simp[Go.Instr.findNow,c,n];omega,by grind,b.1,b.2.1,b.2.2.1,s⟩
  grind|[],_::_,_,_,b,_=>b.elim|(_,_)::_,[],_,_,b,_=>b.elim
theorem MapRel.get_all{ν:Nat->Nat}{b:List (PV×AV)}{a:Array MapEntry}(h:MapRel ν w S μ H b a.toList):a.size=b.length/\∀(j:Nat)k v,b[j]?=some (k,v)->∃e,a[j]?=some e/\RelP ν w S k e.key/\v.ok=true/\RelV ν w S μ H v e.val:=⟨by simpa using h.len,λj k v c=>by simpa using h.get j k v c⟩
theorem x_mkmap(e:Rel N.fn w S μ H){T:TypeId}:∃u c b,(Go.Instr.makeMap T none).run P w=.ok u c/\Step N.fn w S μ H c S b (H++[.box (ak [])])/\RelV N.fn c S b (H++[.box (ak [])]) (.mp H.length) u:=by
 refine⟨.map (some w.heap.size),w.alloc (.map #[] 0),upd μ H.length (.pointer (some ⟨w.heap.size,0,none⟩)),?_,Step.push e (Grows.alloc w _) ?_ ?_,?_⟩;·rfl
 ·exact⟨w.heap.size,upd_same,.inr (.inr ⟨[],#[],0,rfl,Go.heap_alloc_new w _,Go.MapKept.stamped_empty _,rfl,λj k v f=>by grind⟩)⟩
 ·intro g d;simp[aO,]at d;omega
 ·exact .mp _ w.heap.size _ (by simp) (λ_ _=>upd_same) rfl
theorem now_ne{d:TypeDesc}{u:Value}(b:Go.MapKept.IsKey d u):∀{l:List MapEntry}{i:Nat},Go.Instr.findNow d u l i=some none->∀e∈l,e.key≠u
 |[],_,_=>by simp|x::l,i,h=>by
  intro e c;unfold Go.Instr.findNow at h;split at h;·grind
  ·rename_i j;rcases List.mem_cons.1 c with rfl|c;·intro f;let⟨r,k,g⟩:=Go.MapKept.sameNow_of_keys b (f▸b:Go.MapKept.IsKey d e.key);grind
   ·exact now_ne b h e c
  grind
theorem pF(s:Rel N.fn w S μ H){d g:Nat}{A b:List (PV×AV)}{q a:Array MapEntry}{c n:Nat}(p:mapOf H d=some A)(v:μ d=.pointer (some ⟨g,0,none⟩))(D:w.heap[g]?=some (.map q c))(r:Go.MapKept.Stamped a n)(z:∀{u:World}{i:Nat->Value}{x:Heap},(∀k,S k->u.heap[k]?=w.heap[k]?)->Moves μ H i x->MapRel N.fn u S i x b a.toList):Step N.fn w S μ H {w with heap:=w.heap.setIfInBounds g (.map a n)} S (upd μ d (.pointer (some ⟨g,0,none⟩))) (H.set d (.box (ak b))):=by
 have o:=eZ p;have l:Moves μ H (upd μ d (.pointer (some ⟨g,0,none⟩))) (H.set d (.box (ak b))):=mU o v.symm;have t:∀k,k<w.heap.size->aO (μ d)≠some k->({w with heap:=w.heap.setIfInBounds g (.map a n)}:World).heap[k]?=w.heap[k]?:=by intro k _ m;rw[v]at m;have :g≠k:=λe=>m (by rw[e];rfl);grind
 have f:=λk j=>t k (s.lt k j) (λe=>s.apart k (alive_iff.2 ⟨d,_,o,.inl ⟨_,rfl⟩,e⟩) j);let⟨B,y⟩:=(z f l).get_all;refine Step.set s o (.inl ⟨_,rfl⟩) rfl rfl rfl (by simp) t l ?_ (λk h=>.inl (by grind));exact⟨g,upd_same,.inr (.inr ⟨b,a,n,rfl,by grind,r,B,y⟩)⟩
theorem x_mset(C:Rel N.fn w S μ H){T k e:TypeId}{kd:KD}{x i y:Value}{E K I:AV}{G:Heap}(R:mapT P T=some (k,e))(s:P.underlying k=some kd.desc)(Z:RelV N.fn w S μ H E x)(hi:RelV N.fn w S μ H K i)(O:RelV N.fn w S μ H I y)(q:Er H kd E K I=some G):∃F A,(Go.Instr.mapUpdate T x i y).run P w=.ok () F/\Step N.fn w S μ H F S A G:=by
 have L:=nU R;unfold Er at q;split at q;rotate_left;·grind
 rename_i id kv;simp[ifB_some,Option.bind_eq_some_iff,]at q;obtain⟨⟨m,v⟩,es,d,Q,X,rfl⟩:=q;have b:=Mr m hi.p_inv;obtain⟨g,rfl,hl,o⟩:=Z.mp_inv;let⟨g',c,a,M,f,l,U⟩:=C.map_of d;have o:=o _ (eZ d);rw[o]at M;cases M;rcases Uy m hi.p_inv v O 0 U X with⟨p,J⟩|⟨j,en,p,J,W,V⟩
 ·have t:=Go.MapKept.run_findKey (w:=w) s p;refine⟨{w with heap:=w.heap.setIfInBounds g (.map (c.push {key:=i,val:=y,born:=a}) (a+1))},_,?_,pF C d o f (Go.MapKept.stamped_push l (now_ne b p)) λD B=>?_⟩;·simp[Go.Instr.mapUpdate,Go.run_underlying L,Go.MapKept.run_getObj_map f,Go.MapKept.run_checkKey s b,t,Go.MapKept.run_setObj_map _ f]
  ·rw[Array.toList_push];exact(J _ rfl rfl).keep (λ_ h=>h) D B
 ·have t:=Go.MapKept.run_findKey (w:=w) s p;have z:c[j]?=some en:=by grind
  have u:=Go.MapKept.run_keyThatStays (P:=P) (w:=w) b;refine⟨{w with heap:=w.heap.setIfInBounds g (.map (c.modify j λe=>{e with key:=i,val:=y}) a)},_,?_,pF C d o f (Go.MapKept.stamped_modify l _ _ (λ_ _=>rfl) (λe' _ Y=>by grind)) λD B=>?_⟩;·simp[Go.Instr.mapUpdate,Go.run_underlying L,Go.MapKept.run_getObj_map f,Go.MapKept.run_checkKey s b,t,Go.MapKept.run_setObj_map _ f,z,W,u]
  ·have e:(c.modify j λe=>{e with key:=i,val:=y}).toList=c.toList.set j {en with key:=i,val:=y}:=by rw[Array.toList_modify];refine List.ext_getElem? λn=>?_;grind
   rw[e];exact(V _ rfl rfl).keep (λ_ h=>h) D B
theorem x_mdel(z:Rel N.fn w S μ H){T k e:TypeId}{kd:KD}{ts:Array TypeId}{t0:TypeId}{x i:Value}{G F:AV}{B:Heap}(K:mapT P T=some (k,e))(q:P.underlying k=some kd.desc)(J:RelV N.fn w S μ H G x)(hi:RelV N.fn w S μ H F i)(n:ts[0]?=some T)(r:mdelA H kd G F=some B):∃A s,(Builtin.delete_ ts t0 #[x,i]).run P w=.ok (.tuple #[]) A/\Step N.fn w S μ H A S s B:=by
 have C:=nU K;unfold mdelA at r;split at r;rotate_left;·grind
 rename_i U W;simp[ifB_some,Option.bind_eq_some_iff,]at r;obtain⟨o,O,c,I,L,rfl⟩:=r;have d:=Mr o hi.p_inv;obtain⟨g,rfl,V,l⟩:=J.mp_inv;let⟨R,b,a,D,f,m,E⟩:=z.map_of c;have l:=l _ (eZ c);rw[l]at D;cases D;rcases Ly o hi.p_inv 0 E L with⟨y,rfl⟩|⟨j,en,y,Q,M⟩;·have v:=Go.MapKept.run_findKey (w:=w) q y;refine⟨{w with heap:=w.heap.setIfInBounds g (.map b a)},_,?_,pF z c l f m λt u=>E.keep (λ_ h=>h) t u⟩;simp[Builtin.delete_,n,Go.run_underlying C,Go.MapKept.run_getObj_map f,Go.MapKept.run_checkKey q d,v,Go.MapKept.run_setObj_map _ f]
 ·have v:=Go.MapKept.run_findKey (w:=w) q y;refine⟨{w with heap:=w.heap.setIfInBounds g (.map (b.eraseIdxIfInBounds j) a)},_,?_,pF z c l f (Go.MapKept.stamped_erase m _) λt u=>?_⟩;·simp[Builtin.delete_,n,Go.run_underlying C,Go.MapKept.run_getObj_map f,Go.MapKept.run_checkKey q d,v,Go.MapKept.run_setObj_map _ f]
  ·have e:(b.eraseIdxIfInBounds j).toList=b.toList.eraseIdx j:=by simp
   rw[e];exact M.keep (λ_ h=>h) t u
theorem q_mlen(t:Rel N.fn w S μ H){T k e t0:TypeId}{x:Value}{l v:AV}(r:mapT P T=some (k,e))(c:RelV N.fn w S μ H l x)(b:Pf H l=some v):∃u,(Builtin.len_ #[T] t0 #[x]).run P w=.ok u w/\RelV N.fn w S μ H v u:=by
 have j:=nU r;unfold Pf at b;split at b;·simp[]at b;subst b;have c:=c.p_inv;cases c;exact⟨.int .i64 0,by simp[Builtin.len_,Go.run_underlying j,Go.goInt],.p _ _ (.int _ _)⟩
 ·rename_i z;obtain⟨o,a,rfl⟩:=Option.map_eq_some_iff.1 b;obtain⟨g,rfl,h,m⟩:=c.mp_inv;let⟨A,n,f,i,y,s,q⟩:=t.map_of a;rw[m _ (eZ a)]at i;cases i;have h:=q.get_all.1;refine⟨.int .i64 (o.length:Nat),?_,.p _ _ (.int _ _)⟩;simp[Builtin.len_,Go.run_underlying j,Go.goInt,Go.MapKept.run_getObj_map y,h]
 grind
theorem q_isnil{a:Act}(I:Rel N.fn w S μ H){j:BinOp}{T e:TypeId}{b:Bool}{x y:Operand}{l m v:AV}(h:j=if b then .neq else .eql)(s:slT P T=some e)(o:RelV N.fn w S μ H l (a.eval x))(k:RelV N.fn w S μ H m (a.eval y))(c:sI H b l m=some v):∃u,(do Go.eqGuard j T x y (a.eval x) (a.eval y);Go.binOp j T (a.eval x) (a.eval y)).run P w=.ok u w/\RelV N.fn w S μ H v u:=by
 unfold sI at c;split at c;·rename_i F n sz xs;let⟨r,q,c⟩:=Option.bind_eq_some_iff.1 c;simp[]at c;obtain⟨O,rfl⟩:=c;subst h;have t:=o.own_inv q;have G:=k.p_inv;generalize a.eval x=R at*;generalize a.eval y=L at*;cases G with|sl _ _ _ K E J _ _ _ C _ _ _ _=>
  obtain⟨_,rfl,_⟩:=C (.inl rfl);let⟨f,A,B⟩:=cl q;let⟨_,_,us,i,_⟩:=I.blk F _ A;let⟨_,i⟩:=i;rw[B]at i;rcases i with⟨M,_⟩|⟨g,cap,z,Q,D,_⟩;·omega
  ·rw[t,D];refine⟨.bool b,?_,.p _ _ (.bool _)⟩;simp[mL (u:=.slice (some ⟨g,0,none⟩) n cap) rfl,];have :=uw (P:=P) (w:=w) (T:=T) (u:=.slice (some ⟨g,0,none⟩) n cap) (v:=.slice none xs.length E) b rfl rfl (Ah (cZ s) _ _ _ _ _);grind
 ·exact q_eqk (kd:=4) h (by simp[eqkT,cZ s]) o k c
def kdIs:KD->TypeDesc->Bool|.int k,.int k'=>decide (k'=k)|.bool,.bool=>true|.str,.string=>true|_,_=>false
theorem ze{kd:KD}{d:TypeDesc}(h:kdIs kd d=true):d=kd.desc:=by
 cases kd<;>cases d<;>simp[kdIs,]at h;·subst h;rfl
 ·rfl
 ·rfl
theorem OZ{T:TypeId}{zero:List PV}(h:zeroV P T zero=true):∃z,(Go.zeroValue T).run P w=.ok z w/\RelV N.fn w S μ H (mkZ zero) z:=by
 unfold zeroV at h;split at h;·rename_i z p f;let⟨i,hi,a⟩:=Option.bind_eq_some_iff.1 f;simp[]at h;exact⟨z,by simp[Go.zeroValue,Go.typeInfo,hi,a],.p _ _ (xu h.2)⟩
 ·rename_i cs f b;let⟨i,hi,a⟩:=Option.bind_eq_some_iff.1 f;refine⟨.agg cs,by simp[Go.zeroValue,Go.typeInfo,hi,a],?_⟩;have g:=mF (ν:=N.fn) (w:=w) (S:=S) h;have e:∀d:List PV,(∀p,d=[p]->False)->mkZ d=.p (.agg d):=by intro d b;unfold mkZ;simp
  rw[e _ b];exact .p _ _ (.agg _ _ (by grind) g.2.1 (λj c l=>by simp_all))
 grind
theorem x_brow(K:Rel N.fn w S μ H){T e:TypeId}{sz n:Nat}{ag:Bool}{zero:List PV}{parts:List (Nat×Value)}{a:List (Nat×Nat×AV)}{r:AV×Heap}(W:slT P T=some e)(O:(P.info? e).map (·.size)=some sz)(l:0<sz)(E:ag=false->sz=1)(hn:n*sz<=2^24)(G:uC P e (n*sz) zero=true)(hp:All2 (λ(x:Nat×Value)(y:Nat×Nat×AV)=>(x.1*sz,sz)=(y.1,y.2.1)/\RelV N.fn w S μ H y.2.2 x.2) parts a)(d:Nr H sz ag n (lz (zero.map .p) a)=some r):∃u C b,(Go.Instr.buildSlice T n parts.toArray).run P w=.ok u C/\Step N.fn w S μ H C S b r.2/\RelV N.fn C S b r.2 r.1 u:=by
 unfold Nr at d;let⟨cs,hf,d⟩:=Option.bind_eq_some_iff.1 d;let⟨ps,F,d⟩:=Option.bind_eq_some_iff.1 d;simp[]at d;obtain⟨⟨f,L⟩,rfl⟩:=d;unfold uC at G;split at G;rotate_left;·grind
 rename_i z B;let⟨i,hi,A⟩:=Option.bind_eq_some_iff.1 B;have m:=lN (N:=N) (w:=w) (S:=S) (μ:=μ) (H:=H) G;rw[Array.toArray_toList]at m;let⟨us,t,f2⟩:=mi (λk=>some (k*sz,sz)) parts a _ cs _ m (All2.imp (λx y h=>⟨by grind,h.2⟩) hp) hf;let⟨p1,Y,Z⟩:=qF F f2;let⟨M,X⟩:=qZ (ag:=ag) E n ps f Y;have D:us.toList.length=n*sz:=by grind
 have q:RowAt (w.alloc (.cells us e)) (.slice (some ⟨w.heap.size,0,none⟩) n n) sz (chunks sz ag n ps).length us.toList:=by
  rw[M];refine⟨D,?_⟩;by_cases o:n=0;·simp[*]
  ·refine .inr ⟨w.heap.size,n,us,e,rfl,by omega,⟨_,Go.heap_alloc_new w _,.inl rfl⟩,Nat.le_refl _,by simp[maxLen];have :lim=1073741824:=rfl;omega,by grind,?_⟩;grind
 let⟨b,V,s2⟩:=fG K (Grows.alloc w (.cells us e)) l (xs:=chunks sz ag n ps) (by grind) q ⟨λx v=>by let⟨i,hi⟩:=List.getElem?_of_mem v;grind,λi x j c v U=>by have R:=(X i x v).2.2 j c U;have :=(Z _ c R).keep (λ_ h=>h) (λg J=>Go.RowKit.Below.heap_alloc w (.cells us e) g (K.lt g J));simp_all⟩ (λg J=>by simp[aO]at J;grind);refine⟨_,_,b,?_,V,by rw[M]at s2;omega⟩;have I:¬(n*sz>2^24):=by omega
 simp only[Go.Instr.buildSlice,Go.Sem.run_bind,Go.run_underlying (cZ W),Go.Result.andThen_ok,run_sizeOf O,if_neg I];by_cases o:n*sz=0
 ·rw[if_pos o]at t;simp only[o,if_true];rw[Go.Sem.run_bind];simp only[Go.Sem.run_pure,Go.Result.andThen_ok];have Q:(Array.range 0).map (λx=>(#[]:Array Value)[x%(#[]:Array Value).size]!)=#[]:=by simp
  rw[Q,t];rfl
 ·rw[if_neg o]at t;simp[o,Go.zeroValue,Go.typeInfo,hi,A,];rw[t];rfl
end
def eqaT(P:Program)(T:TypeId)(ks:List Nat):Bool:=match P.underlying T with|some (.array n e)=>!P.eqGuardType P.depth T&&fO P e 1&&(match P.info? e with|some i=>i.size==1|none=>false)&&ks==List.replicate n 1|_=>false
section


variable{Γ:Ctx}{N:Names}{P:Program}{w:World}{S:Nat->Prop}{μ:Nat->Value}{H:Heap}{a:Act}
theorem uc{e:TypeId}(g:fO P e 1=true)(d:Nat){xs ys:Array Value}:∀(m k:Nat)(a f:List PV)(b:Bool),k+a.length<=xs.size->k+f.length<=ys.size->(∀(j:Nat)c,a[j]?=some c->RelP N.fn w S c (xs.getD (k+j) undef))->(∀(j:Nat)c,f[j]?=some c->RelP N.fn w S c (ys.getD (k+j) undef))->aN (List.replicate m 1) a f=some b->(Go.Op.eqItems (d+1) e 1 xs ys (List.range' k m)).run P w=.ok b w:=by intro m;induction m with
 |zero=>intro k a f b _ _ _ _ h;cases a<;>cases f<;>simp[aN,]at h;subst h;rfl|succ m l=>intro k a f b A D i n h;rw[List.replicate_succ]at h;cases a with|nil=>simp[aN]at h|cons x a=>cases f with|nil=>cases x<;>simp[aN]at h|cons y f=>
    cases x<;>try(simp[aN]at h;done)
    rename_i p;cases y<;>try(simp[aN]at h;done)
    rename_i q;simp only[aN,Option.map_eq_some_iff]at h;obtain⟨t,v,rfl⟩:=h;simp[List.length_cons]at A D;have u:=(i 0 _ rfl).bool_inv;have r:=(n 0 _ rfl).bool_inv;rw[Nat.add_zero]at u r;have o:=gz (P:=P) (w:=w) (xs:=xs) (k:=k) g (by omega);have s:=gz (P:=P) (w:=w) (xs:=ys) (k:=k) g (by omega);rw[u]at o;rw[r]at s;have C:(Go.Op.equalIn (d+1) e (.bool p) (.bool q)).run P w=.ok (p==q) w:=by
     simp[fO]at g;split at g;·rename_i E;simp[Go.Op.equalIn,Go.run_underlying E]
     grind
    have l:=l (k+1) a f t (by omega) (by omega) (λj c B=>by have :=i (j+1) c (by grind);grind) (λj c B=>by have :=n (j+1) c (by grind);grind) v;rw[List.range'_succ];simp only[Go.Op.eqItems,Go.Sem.run_bind,Nat.mul_one,o,s,Go.Result.andThen_ok,C];cases z:p==q;all_goals simp[*]
theorem q_eqa{k:BinOp}{T:TypeId}{q:List Nat}{b:Bool}{x y:Operand}{r s v:AV}(g:k=if b then .neq else .eql)(d:eqaT P T q=true)(l:RelV N.fn w S μ H r (a.eval x))(f:RelV N.fn w S μ H s (a.eval y))(h:eqsA q b r s=some v):∃u,(do Go.eqGuard k T x y (a.eval x) (a.eval y);Go.binOp k T (a.eval x) (a.eval y)).run P w=.ok u w/\RelV N.fn w S μ H v u:=by
 unfold eqsA at h;split at h;·rename_i G D;obtain⟨t,C,rfl⟩:=Option.map_eq_some_iff.1 h;cases l with|p _ _ l=>cases f with|p _ _ f=>generalize a.eval x=O at*;generalize a.eval y=K at*;cases l with|agg _ xs M R J=>cases f with|agg _ ys k1 k2 Q=>
  unfold eqaT at d;split at d
  ·rename_i n e o;simp[]at d;obtain⟨⟨⟨A,E⟩,F⟩,rfl⟩:=d;split at F
   ·rename_i i hi;have I:P.cellsOf e=1:=by simp[Go.Program.cellsOf,];grind
    have L:=uc (P:=P) (w:=w) (N:=N) (S:=S) E 9998 (xs:=xs) (ys:=ys) n 0 G D t (by omega) (by omega) (λj c B=>by grind) (λj c B=>by grind) C;have z:(Go.Op.equalIn 10000 T (.agg xs) (.agg ys)).run P w=.ok t w:=by rw[show(10000:Nat)=9999+1 from rfl,Go.run_equalIn_array w 9999 xs ys o hi,I,List.range_eq_range'];grind
    subst g;cases b;·refine⟨.bool t,?_,.p _ _ (by cases t<;>exact .bool _)⟩;simp[Go.run_eqGuard_agg w _ T x y xs ys A,Go.run_eql_struct,z]
    ·refine⟨.bool (!t),?_,.p _ _ (by cases t<;>exact .bool _)⟩;simp[Go.run_eqGuard_agg w _ T x y xs ys A,Go.run_neq_struct,z]
   grind
  grind
 grind
end
end Ab
