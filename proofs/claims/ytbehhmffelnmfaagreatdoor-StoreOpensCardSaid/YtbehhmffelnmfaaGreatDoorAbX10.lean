import Derived.Test.YtbehhmffelnmfaaGreatDoorAbX2
import Derived.Laws.AppendOwn
import Derived.Laws.MakeOwn
import Derived.Test.YtbehhmffelnmfaaGreatDoorAbBase
set_option linter.all false
namespace Ab
open Go (Addr Builtin IntKind Obj Program Result Sem TypeId Value World maxLen undef)
section


variable{Γ:Ctx}{N:Names}{P:Program}{w:World}{S:Nat->Prop}{μ:Nat->Value}{H:Heap}
def Src(w:World)(y:Value)(sz m:Nat)(news:List Value):Prop:=news.length=m*sz/\(∀u∈news,u.oneCell'=true)/\((∃a c,y=.slice a m c/\m=0)\/∃ad c,y=.slice (some ad) m c/\∀(j:Nat)u,news[j]?=some u->w.cell? (ad.add j)=some u)
theorem og{t ty e:TypeId}{i:Go.TypeInfo}(d:P.underlying t=some (.slice e))(hi:P.info? e=some i)(a:Option Addr)(n cap:Nat)(f:n<=cap)(b:Option Addr)(c:Nat):(Builtin.append_ #[t,t] ty #[.slice a n cap,.slice b 0 c]).run P w=.ok (.slice a n cap) w:=by cases a<;>cases b<;>simp[Builtin.append_,Go.run_underlying d,Go.sizeOf,Go.typeInfo,hi,Builtin.lenOf,f,Builtin.firstCells,Go.loadCells,Go.loadCellsFrom,Go.storeCells]
theorem vG(t ty e r:TypeId)(i:Go.TypeInfo)(z:P.underlying t=some (.slice e))(hi:P.info? e=some i)(g d h:Nat)(f:Array Value){o:Nat×Nat}(x:w.heap[g]?=some (.cells f r o))(p:o=(0,0)\/f.size<=o.1)(a:Addr)(m c:Nat)(b:List Value)(y:b.length=m*i.size)(k:∀(j:Nat)u,b[j]?=some u->w.cell? (a.add j)=some u)(s:∀u∈b,u.oneCell'=true)(l:d+m<=h)(q:d*i.size+b.length<=f.size):(Builtin.append_ #[t,t] ty #[.slice (some ⟨g,0,none⟩) d h,.slice (some a) m c]).run P w=.ok (.slice (some ⟨g,0,none⟩) (d+m) h) (w.setRow g (f.toList.take (d*i.size)++b++f.toList.drop (d*i.size+b.length)).toArray):=by have v:=Go.run_firstCells_some (P:=P) w i.size m a m c b y k;have n:=dZ P g (d*i.size) r o b 0 f w x p (by grind) s;simp[]at n;simp[Builtin.append_,Go.run_underlying z,Go.sizeOf,Go.typeInfo,hi,Builtin.lenOf,l,v,Go.Addr.add_lit,n]
theorem mg{t ty e:TypeId}{i:Go.TypeInfo}{z:Value}{sz n m:Nat}{v y:Value}{us d:List Value}(J:P.underlying t=some (.slice e))(hi:P.info? e=some i)(hz:i.zero=some z)(X:i.size=sz)(U:z.cells.size=sz)(h0:0<sz)(hv:RowAt w v sz n us)(hy:Src w y sz m d)(hlim:n+m<=lim)(hb:i.bytes<=65536):∃S F,(Builtin.append_ #[t,t] ty #[v,y]).run P w=.ok S F/\RowAt F S sz (n+m) (us++d)/\F.os=w.os/\F.tape=w.tape/\F.output=w.output/\w.heap.size<=F.heap.size/\(∀g,g<w.heap.size->aO v≠some g->F.heap[g]?=w.heap[g]?)/\(∀g,aO S=some g->aO v=some g\/w.heap.size<=g)/\(m=0->S=v):=by
 subst X;have T:lim=1073741824:=rfl;have A:(n+m)*i.bytes<=140737488355328:=by calc(n+m)*i.bytes<=1073741824*65536:=Nat.mul_le_mul (by omega) hb
   _<=140737488355328:=by simp
 let⟨H,K,hy⟩:=hy;let⟨Q,hv⟩:=hv;by_cases hm:m=0
 ·subst hm;have V:d=[]:=List.eq_nil_of_length_eq_zero (by grind);subst V;obtain⟨b,c,rfl⟩:∃b c,y=.slice b 0 c:=by grind
  obtain⟨a,cap,rfl,M⟩:∃a cap,v=.slice a n cap/\n<=cap:=by grind
  exact⟨_,w,og J hi a n cap M b c,⟨by grind,by simp_all⟩,rfl,rfl,rfl,Nat.le_refl _,λ_ _ _=>rfl,λg r=>.inl r,λ_=>rfl⟩
 ·obtain⟨C,c,rfl,f⟩:∃C c,y=.slice (some C) m c/\∀(j:Nat)u,d[j]?=some u->w.cell? (C.add j)=some u:=by grind
  have B:(us++d).length=(n+m)*i.size:=by grind
  have q:∀(p:Nat),p<n+m->RowAt (w.drew.alloc (.cells (us.toArray++d.toArray++Builtin.zeroCells z.cells (Go.grownCap w (n+m) p e-(n+m))) e)) (.slice (some ⟨w.heap.size,0,none⟩) (n+m) (Go.grownCap w (n+m) p e)) i.size (n+m) (us++d):=by
   intro p ho;have hge:=Go.grownCap_ge w (n+m) p e;have E:=Go.grownCap_le_maxLen w (n+m) p e (by simp[maxLen];omega);refine⟨B,.inr ⟨w.heap.size,_,_,e,rfl,by omega,⟨_,Go.heap_alloc_new w.drew _,.inl rfl⟩,hge,E,?_,?_⟩⟩;·simp[Go.size_zeroCells,U,Q,H,<-Nat.add_mul];grind
   grind
  have s:∀(o:Obj),(w.drew.alloc o).os=w.os/\(w.drew.alloc o).tape=w.tape/\(w.drew.alloc o).output=w.output/\w.heap.size<=(w.drew.alloc o).heap.size/\(∀g,g<w.heap.size->aO v≠some g->(w.drew.alloc o).heap[g]?=w.heap[g]?)/\∀n c g,aO (.slice (some ⟨w.heap.size,0,none⟩) n c)=some g->aO v=some g\/w.heap.size<=g:=by intro o;refine⟨rfl,rfl,rfl,by simp,λg r _=>(Grows.alloc w.drew o).keep g r,λn c g r=>?_⟩;simp[aO]at r;grind
  rcases hv with⟨rfl,a,rfl⟩|⟨g,cap,x,R,rfl,hc0,r,hnc,E,N,Z⟩;·have Y:us=[]:=List.eq_nil_of_length_eq_zero (by grind);subst Y;simp only[Nat.zero_add,]at*;cases a with|none=>have O:=Go.run_append_nil (P:=P) w t ty e i z J hi hz C m c d H f (by omega) (by omega) (by omega);have G:=q 0 (by omega);simp[]at G;let⟨r1,r2,r3,r4,r5,r6⟩:=s (.cells (d.toArray++Builtin.zeroCells z.cells (Go.grownCap w m 0 e-m)) e);grind|some b=>have O:=Go.run_append_grow (P:=P) w t ty e i z J hi hz b 0 0 [] (by simp) (by simp) C m c d H f (by omega) (by omega) (Go.growslice_fits (by omega) (by grind));simp[Nat.zero_add,Array.empty_append]at O;have G:=q 0 (by omega);simp[Array.empty_append]at G;let⟨r1,r2,r3,r4,r5,r6⟩:=s (.cells (d.toArray++Builtin.zeroCells z.cells (Go.grownCap w m 0 e-m)) e);grind
  ·let⟨fr,r,L⟩:=r;have hbl:∀k,aO (.slice (some ⟨g,0,none⟩) k cap)=some g:=by intro k;simp[aO];grind
   by_cases l:n+m<=cap
   ·have I:n*i.size+d.length<=x.size:=by rw[H,N,<-Nat.add_mul];exact Nat.mul_le_mul_right _ l
    have O:=vG t ty e R i J hi g n cap x r (L.or N) C m c d H f K l I;refine⟨_,_,O,⟨B,.inr ⟨g,cap,_,R,rfl,hc0,⟨fr,Go.setRow_heap w g x _ R _ r,L⟩,l,E,?_,?_⟩⟩,rfl,rfl,rfl,Nat.le_of_eq setRow_size.symm,λk _ W=>kX (λe=>W (by grind)),λk hk=>.inl ?_,λh=>absurd h hm⟩;all_goals grind
   ·have D:∀(j:Nat)u,us[j]?=some u->w.cell? ((⟨g,0,none⟩:Addr).add j)=some u:=by intro j u hj;rw[Go.Addr.add_lit,Nat.zero_add,Go.cell_of_row w g j x R _ r];grind
    have O:=Go.run_append_grow (P:=P) w t ty e i z J hi hz ⟨g,0,none⟩ n cap us Q D C m c d H f (by omega) (by omega) (Go.growslice_fits (by omega) A);let⟨r1,r2,r3,r4,r5,r6⟩:=s (.cells (us.toArray++d.toArray++Builtin.zeroCells z.cells (Go.grownCap w (n+m) cap e-(n+m))) e);grind
def FlatRel(ν:Nat->Nat)(w:World)(S:Nat->Prop)(sz:Nat)(ys:List PV)(news:List Value):Prop:=(∀x∈ys,x.cells.length=sz/\∀c∈x.cells,c.one=true)/\∀i x j c,ys[i]?=some x->x.cells[j]?=some c->RelP ν w S c (news.getD (i*sz+j) undef)
theorem rO(hr:Rel N.fn w S μ H){sz:Nat}{y:Value}{y':AV}{ys:List PV}(h0:0<sz)(hy:RelV N.fn w S μ H y' y)(hv:elemsOf H sz y'=some ys):∃news,Src w y sz ys.length news/\FlatRel N.fn w S sz ys news:=by
 unfold elemsOf at hv;split at hv;·rename_i k sz' xs;simp only[Option.ite_none_right_eq_some,Option.some.injEq]at hv;obtain⟨hk,rfl⟩:=hv;have hy:=hy.p_inv;cases hy with|sl _ _ _ a cap us h1 h2 h3 h4 h5 h6 h7 h8=>
  by_cases hne:xs=[];·subst hne;exact⟨[],⟨by simp,by simp,.inl ⟨a,cap,rfl,rfl⟩⟩,by simp,by simp⟩
  ·obtain⟨ad,rfl,hS⟩:=h6 hne;have hsz:sz'=sz:=by
    rcases hk with h|h;·exact h.symm
    ·exact absurd (h4 (.inl h)).1 hne
   subst hsz;have get:∀t,t<xs.length*sz'->∃x c,xs[t/sz']?=some x/\x.cells[t%sz']?=some c:=by
    intro t ht;have h9:t/sz'<xs.length:=(Nat.div_lt_iff_lt_mul h0).2 ht;have h10:=h3 _ (List.getElem_mem h9);have h11:t%sz'<xs[t/sz'].cells.length:=by rw[h10.1];exact Nat.mod_lt _ h0
    exact⟨_,_,List.getElem?_eq_getElem h9,List.getElem?_eq_getElem h11⟩
   have dm:∀i j,j<sz'->(i*sz'+j)/sz'=i/\(i*sz'+j)%sz'=j:=by
    intro i j hj;constructor;·rw[Nat.add_comm,Nat.add_mul_div_right _ _ h0,Nat.div_eq_of_lt hj,Nat.zero_add]
    ·rw[Nat.add_comm,Nat.add_mul_mod_self_right,Nat.mod_eq_of_lt hj]
   refine⟨(List.range (xs.length*sz')).map λt=>us (t/sz') (t%sz'),⟨by simp,λu hu=>?_,.inr ⟨ad,cap,rfl,λj u hu=>?_⟩⟩,h3,λi x j c hx hc=>?_⟩;·obtain⟨t,ht,rfl⟩:=List.mem_map.1 hu;obtain⟨x,c,hx,hc⟩:=get t (by simpa using ht);rw[(h8 _ _ _ _ hx hc).one];exact(h3 x (List.mem_of_getElem? hx)).2 c (List.mem_of_getElem? hc)
   ·rw[List.getElem?_map]at hu;obtain⟨t,ht,rfl⟩:=Option.map_eq_some_iff.1 hu;obtain⟨hlt,rfl⟩:j<xs.length*sz'/\j=t:=by have :=List.getElem?_eq_some_iff.1 ht;obtain⟨h9,h10⟩:=this;simp at h9 h10;exact⟨h9,h10⟩
    obtain⟨x,c,hx,hc⟩:=get j hlt;have :=h7 ad rfl _ _ _ _ hx hc;rwa[show j/sz'*sz'+j%sz'=j by rw[Nat.mul_comm];exact Nat.div_add_mod j sz']at this
   ·have hj:j<sz':=by rw[<-(h3 x (List.mem_of_getElem? hx)).1];exact(List.getElem?_eq_some_iff.1 hc).1
    have hi:i<xs.length:=(List.getElem?_eq_some_iff.1 hx).1;have hlt:i*sz'+j<xs.length*sz':=by calc i*sz'+j<i*sz'+sz':=by omega
      _=(i+1)*sz':=by rw[Nat.add_mul,Nat.one_mul]
      _<=xs.length*sz':=Nat.mul_le_mul_right _ hi
    rw[List.getD_eq_getElem?_getD,List.getElem?_map,List.getElem?_range hlt];simp only[Option.map_some,Option.getD_some];rw[(dm i j hj).1,(dm i j hj).2];exact h8 _ _ _ _ hx hc
 ·rename_i id n;obtain⟨⟨sz',xs⟩,hb,hv⟩:=Option.bind_eq_some_iff.1 hv;simp only[Option.ite_none_right_eq_some,Option.some.injEq]at hv;obtain⟨rfl,rfl⟩:=hv;rw[hy.own_inv hb];obtain⟨f,h1,h2⟩:=cl hb;obtain⟨_,_,us,h3,h4,h5,_⟩:=hr.blk id _ h1;have h3':=h3;obtain⟨hul,h3⟩:=h3;have hone:∀u∈us,u.oneCell'=true:=by
   intro u hu;obtain⟨t,ht⟩:=List.getElem?_of_mem hu;have hlt:t<xs.length*sz:=by rw[<-hul];exact(List.getElem?_eq_some_iff.1 ht).1
   have h9:t/sz<xs.length:=(Nat.div_lt_iff_lt_mul h0).2 hlt;have h10:=h4 _ (List.getElem_mem h9);have h11:t%sz<xs[t/sz].cells.length:=by rw[h10.1];exact Nat.mod_lt _ h0
   have :=h5 _ _ _ _ (List.getElem?_eq_getElem h9) (List.getElem?_eq_getElem h11);rw[show t/sz*sz+t%sz=t by rw[Nat.mul_comm];exact Nat.div_add_mod t sz,List.getD_eq_getElem?_getD,ht]at this;simp only[Option.getD_some]at this;rw[this.one];exact h10.2 _ (List.getElem_mem h11)
  refine⟨us,⟨hul,hone,?_⟩,h4,h5⟩;rcases h3 with⟨h6,a,h7⟩|⟨g,cap,cur,e',h6,_⟩;·exact .inl ⟨a,0,by rw[h7,h6],h6⟩
  ·refine .inr ⟨_,cap,h6,λj u hu=>?_⟩;have hlt:j<xs.length*sz:=by rw[<-hul];exact(List.getElem?_eq_some_iff.1 hu).1
   rw[Go.Addr.add_lit,Nat.zero_add,pr h3' h6 hlt,List.getD_eq_getElem?_getD,hu];rfl
 ·cases hv
theorem FlatRel.keep{ν:Nat->Nat}{d:World}{sz:Nat}{ys:List PV}{a:List Value}(h:FlatRel ν w S sz ys a)(k:∀g,S g->d.heap[g]?=w.heap[g]?):FlatRel ν d S sz ys a:=⟨h.1,λi x j c f e=>(h.2 i x j c f e).keep (λ_ h=>h) k⟩
theorem FlatRel.append{ν:Nat->Nat}{sz:Nat}{xs ys:List PV}{us a:List Value}(b:FlatRel ν w S sz xs us)(g:FlatRel ν w S sz ys a)(f:us.length=xs.length*sz):FlatRel ν w S sz (xs++ys) (us++a):=by
 refine⟨λx h=>?_,λi x j c hi k=>?_⟩
 ·rcases List.mem_append.1 h with h|h;·exact b.1 x h
  ·exact g.1 x h
 ·by_cases h:i<xs.length
  ·rw[List.getElem?_append_left h]at hi;have l:j<sz:=by rw[<-(b.1 x (List.mem_of_getElem? hi)).1];grind
   have d:i*sz+j<us.length:=by rw[f];calc i*sz+j<i*sz+sz:=by omega
     _=(i+1)*sz:=by grind
     _<=xs.length*sz:=Nat.mul_le_mul_right _ h
   rw[List.getD_eq_getElem?_getD,List.getElem?_append_left d,<-List.getD_eq_getElem?_getD];exact b.2 i x j c hi k
  ·rw[List.getElem?_append_right (by omega)]at hi;have e:i*sz+j=us.length+((i-xs.length)*sz+j):=by rw[f,<-Nat.add_assoc,<-Nat.add_mul];grind
   rw[e,List.getD_eq_getElem?_getD,List.getElem?_append_right (by omega),Nat.add_sub_cancel_left,<-List.getD_eq_getElem?_getD];exact g.2 _ x j c hi k
theorem fG(q:Rel N.fn w S μ H){i:World}{v:Value}{sz:Nat}{xs:List PV}{us:List Value}(m:Grows w i)(p:0<sz)(c:xs.length<=lim)(b:RowAt i v sz xs.length us)(j:FlatRel N.fn i S sz xs us)(k:∀g,aO v=some g->w.heap.size<=g):∃d,Step N.fn w S μ H i S d (H++[.row false sz xs])/\RelV N.fn i S d (H++[.row false sz xs]) (.own H.length xs.length) v:=by
 refine⟨upd μ H.length v,Step.push q m ⟨p,c,us,by simp[*],j.1,j.2,λh=>by grind⟩ k,?_⟩;refine .own _ _ _ (by simp) (λf o n h=>?_) ?_;·simp_all
 ·let⟨_,h⟩:=b;rcases h with⟨_,a,h⟩|⟨g,cap,l,e,h,_⟩<;>rw[h]<;>rfl
theorem x_newrow(c:Rel N.fn w S μ H){sz:Nat}(d:0<sz):∃b,Step N.fn w S μ H w S b (H++[.row false sz []])/\RelV N.fn w S b (H++[.row false sz []]) (.own H.length 0) (.slice none 0 0):=fG c (us:=[]) (Grows.refl w) d (Nat.zero_le _) ⟨by simp,.inl ⟨rfl,none,rfl⟩⟩ ⟨by simp,by simp⟩ (by intro g h;cases h)
theorem Ro(hr:Rel N.fn w S μ H){t ty e:TypeId}{i:Go.TypeInfo}{z:Value}{sz:Nat}{x y:Value}{x':AV}{ys:List PV}{news:List Value}{r:AV×Heap}(ht:P.underlying t=some (.slice e))(hi:P.info? e=some i)(hz:i.zero=some z)(hsz:i.size=sz)(hzs:z.cells.size=sz)(h0:0<sz)(hb:i.bytes<=65536)(hx:RelV N.fn w S μ H x' x)(hs:Src w y sz ys.length news)(hf:FlatRel N.fn w S sz ys news)(hv:cH H sz x' ys=some r):∃v' w' μ',(Builtin.append_ #[t,t] ty #[x,y]).run P w=.ok v' w'/\Step N.fn w S μ H w' S μ' r.2/\RelV N.fn w' S μ' r.2 r.1 v':=by
 unfold cH at hv;split at hv
 ·rename_i id n;split at hv;rotate_left;·cases hv
  rename_i sz' xs hb';simp only[Option.ite_none_right_eq_some,Option.some.injEq]at hv;obtain⟨⟨rfl,rfl,hlim⟩,rfl⟩:=hv;have hrow:rowOf H id xs.length=some (sz',xs):=by simp[rowOf,hb']
  rw[hx.own_inv hrow];obtain⟨_,_,us,h3,h4,h5,_⟩:=hr.blk id _ hb';rw[List.length_append]at hlim;obtain⟨v',w',r1,r2,r3,r4,r5,r6,r7,r8,r9⟩:=mg (ty:=ty) ht hi hz hsz hzs h0 h3 hs hlim hb;have hm:Moves μ H (upd μ id v') (H.set id (.row false sz' (xs++ys))):=iQ hb' (by simp) (λh=>r9 (by simpa using h));have keepS:∀g,S g->w'.heap[g]?=w.heap[g]?:=λg hg=>r7 g (hr.lt g hg) (λe=>hr.apart g (alive_iff.2 ⟨id,_,hb',.inr ⟨sz',xs,rfl⟩,e⟩) hg);have hfl:FlatRel N.fn w' S sz' (xs++ys) (us++news):=(FlatRel.append ⟨h4,h5⟩ hf h3.1).keep keepS;have hlt:=(List.getElem?_eq_some_iff.1 hb').1;refine⟨v',w',upd μ id v',r1,Step.set hr hb' (.inr ⟨sz',xs,rfl⟩) r3 r4 r5 r6 r7 hm ⟨h0,by simpa using hlim,us++news,by rw[upd_same,List.length_append];exact r2,hfl.1,hfl.2,λh=>by cases h⟩ r8,?_⟩;refine .own _ _ _ (by simpa using hlt) (λf sz2 xs2 h=>?_) ?_;·simp only[List.getElem?_set,hlt,if_true,Option.some.injEq,Blk.row.injEq]at h;obtain⟨_,_,rfl⟩:=h;exact⟨Nat.le_refl _,λ_=>upd_same.symm⟩
  ·obtain⟨_,h⟩:=r2;rcases h with⟨_,a,h⟩|⟨g,cap,cur,e,h,_⟩<;>rw[h]<;>rfl
 ·rename_i k sz' xs;simp only[Option.ite_none_right_eq_some]at hv;obtain⟨⟨hk,hlim⟩,hv⟩:=hv;have hx:=hx.p_inv;have hx2:=hx;cases hx with|sl _ _ _ a cap us h1 h2 h3 h4 h5 h6 h7 h8=>
  split at hv;·
   simp only[Option.some.injEq]at hv;subst hv;have hcap:cap=0:=by
    rcases hk with h|⟨h,_⟩;·exact(h4 (.inl h)).2.2
    ·exact(h5 (.inl h)).2 h
   subst hcap;have hrow:RowAt w (.slice a 0 0) sz 0 []:=⟨by simp,.inl ⟨rfl,a,rfl⟩⟩;simp only[List.nil_append]at hlim;obtain⟨v',w',r1,r2,r3,r4,r5,r6,r7,r8,r9⟩:=mg (ty:=ty) ht hi hz hsz hzs h0 hrow hs (by omega) hb;have hg:Grows w w':=⟨r3,r4,r5,r6,λg hg=>r7 g hg (by cases a<;>simp[aO])⟩;rw[Nat.zero_add,List.nil_append]at r2;obtain⟨μ',s1,s2⟩:=fG hr hg h0 hlim r2 (hf.keep (hr.keepS hg)) (λg hg=>by
    rcases r8 g hg with h|h;·cases a<;>simp[aO]at h
    ·exact h);exact⟨v',w',μ',r1,s1,s2⟩
  ·simp only[Option.some.injEq]at hv;subst hv;obtain⟨_,_,hy⟩:=hs;obtain⟨b,c,rfl⟩:∃b c,y=.slice b 0 c:=by
    rcases hy with⟨b,c,h,_⟩|⟨ad,c,h,_⟩;·exact⟨b,c,h⟩
    ·exact⟨_,c,h⟩
   exact⟨_,w,μ,og ht hi _ _ _ h1 b c,⟨hr,Ext.refl,.refl⟩,.p _ _ hx2⟩
  ·rename_i x0 xs0 y0 ys0;simp only[Option.some.injEq]at hv;subst hv;have hk:k=.tight/\sz'=sz:=by
    rcases hk with h|h;·exact absurd (h4 (.inl h)).1 (by simp)
    ·exact h
   obtain⟨rfl,rfl⟩:=hk;have hcap:=(h5 (.inl rfl)).2 rfl;subst hcap;obtain⟨ad,rfl,hS⟩:=h6 (by simp);obtain⟨news0,g1,g2⟩:=rO (N:=N) (μ:=μ) (H:=H) hr (y':=.p (.sl .tight sz' (x0::xs0))) h0 (.p _ _ hx2) (by simp[elemsOf];rfl);obtain⟨hl,hone,hy⟩:=hs;obtain⟨ad2,c,rfl,hnews⟩:∃ad c,y=.slice (some ad) (y0::ys0).length c/\∀(j:Nat)u,news[j]?=some u->w.cell? (ad.add j)=some u:=by
    rcases hy with⟨a,c,_,h⟩|h;·cases h
    ·exact h
   obtain⟨gl,gone,hg⟩:=g1;obtain⟨ad3,c3,e3,holds⟩:∃ad' c,Value.slice (some ad) (x0::xs0).length (x0::xs0).length=.slice (some ad') (x0::xs0).length c/\∀(j:Nat)u,news0[j]?=some u->w.cell? (ad'.add j)=some u:=by
    rcases hg with⟨a,c,_,h⟩|h;·cases h
    ·exact h
   cases e3;subst hsz;have lim_eq:lim=1073741824:=rfl;rw[List.length_append]at hlim;have hbytes:((x0::xs0).length+(y0::ys0).length)*i.bytes<=140737488355328:=by calc((x0::xs0).length+(y0::ys0).length)*i.bytes<=1073741824*65536:=Nat.mul_le_mul (by omega) hb
     _<=140737488355328:=by decide
   have hlt:(x0::xs0).length<(x0::xs0).length+(y0::ys0).length:=by simp
   have hrun:=Go.run_append_grow (P:=P) w t ty e i z ht hi hz ad _ _ news0 gl holds ad2 _ c news hl hnews hlt (by omega) (Go.growslice_fits hlt hbytes);have hge:=Go.grownCap_ge w ((x0::xs0).length+(y0::ys0).length) (x0::xs0).length e;have hcm:Go.grownCap w ((x0::xs0).length+(y0::ys0).length) (x0::xs0).length e<=maxLen:=Go.grownCap_le_maxLen w _ _ e (by simp only[maxLen];omega);have hgr:Grows w (w.drew.alloc (.cells (news0.toArray++news.toArray++Builtin.zeroCells z.cells (Go.grownCap w ((x0::xs0).length+(y0::ys0).length) (x0::xs0).length e-((x0::xs0).length+(y0::ys0).length))) e)):=(Grows.drew w).trans (Grows.alloc w.drew _);have hrow:RowAt (w.drew.alloc (.cells (news0.toArray++news.toArray++Builtin.zeroCells z.cells (Go.grownCap w ((x0::xs0).length+(y0::ys0).length) (x0::xs0).length e-((x0::xs0).length+(y0::ys0).length))) e)) (.slice (some ⟨w.heap.size,0,none⟩) ((x0::xs0).length+(y0::ys0).length) (Go.grownCap w ((x0::xs0).length+(y0::ys0).length) (x0::xs0).length e)) i.size (x0::xs0++y0::ys0).length (news0++news):=by
    have hlen:(news0++news).length=((x0::xs0).length+(y0::ys0).length)*i.size:=by rw[List.length_append,gl,hl,Nat.add_mul]
    rw[List.length_append];refine⟨hlen,.inr ⟨w.heap.size,_,_,e,rfl,by omega,⟨_,Go.heap_alloc_new w.drew _,.inl rfl⟩,hge,hcm,?_,?_⟩⟩;·simp only[Array.size_append,List.size_toArray,Go.size_zeroCells,hzs,gl,hl,<-Nat.add_mul];congr 1;omega
    ·simp only[Array.toList_append,List.append_assoc];rw[<-List.append_assoc,<-hlen];exact List.take_left
   obtain⟨μ',s1,s2⟩:=fG hr hgr h0 (by rw[List.length_append];exact hlim) hrow ((FlatRel.append g2 hf gl).keep (hr.keepS hgr)) (λg hg=>by
    simp only[aO]at hg;split at hg;·cases hg
    ·simp only[Option.some.injEq]at hg;omega);exact⟨_,_,μ',hrun,s1,by simpa using s2⟩
 ·cases hv
end
section


variable{Γ:Ctx}{N:Names}{P:Program}{w:World}{S T:Nat->Prop}{μ:Nat->Value}{H:Heap}
theorem RelP.more{ν:Nat->Nat}{v u}(h:RelP ν w S v u)(a:∀g,S g->T g):RelP ν w T v u:=h.keep a (λ_ _=>rfl)
theorem pj(D:Rel N.fn w S μ H){d:Nat}{f:Bool}{sz:Nat}{xs:List PV}(q:H[d]?=some (.row f sz xs))(u:∀g,S g->T g)(C:∀g,aO (μ d)=some g->T g):RelP N.fn w T (.sl .any sz xs) (μ d):=by
 let⟨K,_,us,b,v,t,_⟩:=D.blk d _ q;have m:=b;let⟨E,b⟩:=b;rcases b with⟨A,a,z⟩|⟨g,cap,s,e,k,l,L,y,r,B,J⟩;·have :=List.eq_nil_of_length_eq_zero A;subst this;rw[z];exact .sl .any sz [] a 0 (λ_ _=>undef) (Nat.le_refl _) (Nat.zero_le _) (by simp) (by simp) (by simp) (by simp) (by simp) (by simp)
 ·have h:=C g (by rw[k];simp[aO];grind);rw[k];refine .sl .any sz xs _ cap (λi j=>us.getD (i*sz+j) undef) y r v (by simp) (by simp) (λ_=>⟨_,rfl,h⟩) (λF n i x j c o l=>?_) (λi x j c o l=>(t i x j c o l).more u);cases n;have G:j<sz:=by grind
  have hi:=(List.getElem?_eq_some_iff.1 o).1;rw[Go.Addr.add_lit,Nat.zero_add];refine pr m k ?_;calc i*sz+j<i*sz+sz:=by omega
   _=(i+1)*sz:=by grind
   _<=xs.length*sz:=Nat.mul_le_mul_right _ hi
theorem cx{d b:Type}{f:d->Option b}:∀{l:List d}{r:List b},mapO f l=some r->r.length=l.length/\∀(j:Nat)x,r[j]?=some x->∃a,l[j]?=some a/\f a=some x
 |[],r,h=>by simp[mapO,]at h;grind|a::l,r,h=>by simp[mapO]at h;cases e:f a with|none=>grind|some x=>simp[e]at h;cases c:mapO f l with|none=>grind|some xs=>simp[c,]at h;subst h;let⟨i,k⟩:=cx c;grind
theorem mw{d:Nat}{v:AV}{p:PV}(h:aI H d v=some p)(a:v.one=true):p.one=true:=by cases d with
 |zero=>cases v<;>simp[aI,]at h;subst h;exact a|succ d=>cases v with|p v=>simp[aI,]at h;subst h;exact a|own c n=>simp only[aI,Option.map_eq_some_iff]at h;obtain⟨_,_,rfl⟩:=h;rfl|bx c b=>simp[aI,Option.bind_eq_some_iff,]at h;obtain⟨_,_,_,_,_,rfl⟩:=h;rfl|el c n i b=>
   simp[aI]at h;split at h;·simp only[Option.bind_eq_some_iff,Option.ite_none_right_eq_some,Option.some.injEq]at h;obtain⟨_,_,_,rfl⟩:=h;rfl
   ·simp only[Option.bind_eq_some_iff,Option.ite_none_right_eq_some,Option.some.injEq]at h;obtain⟨_,_,_,_,_,rfl⟩:=h;rfl|mp c=>simp[aI]at h|clo f cs=>simp[aI,]at h;obtain⟨_,_,rfl⟩:=h;rfl|agg=>cases a|tup=>cases a|nov=>cases a|any=>cases a
theorem NN(P:Rel N.fn w S μ H){k n i d sz:Nat}{xs:List PV}{u:Value}(D:rowOf H k n=some (sz,xs))(h:RelV N.fn w S μ H (.el k n i d) u)(F:∀g,S g->T g)(M:∀f,H[k]?=some (.row f sz xs)->∀g,aO (μ k)=some g->T g)(s:n<=i)(G:i-n<n)(J:i-n<=d)(O:d<=n):RelP N.fn w T (.sl .mem sz ((xs.take d).drop (i-n))) u:=by let⟨f,e,o⟩:=cl D;simp  at o e;cases h with|el _ _ _ _ _ R K v=>
 obtain⟨g,cap,I,rfl⟩:=((K f sz xs e).2 o.symm).2 s G J O;let⟨U,y,us,q,W,C,_⟩:=P.blk k _ e;have A:n<=cap/\cap<=maxLen:=by let⟨_,q⟩:=q;grind
 have r:=M f e g (by rw[I];simp[aO];grind);have z:((xs.take d).drop (i-n)).length=d-(i-n):=by grind
 have m:∀(j:Nat)x,((xs.take d).drop (i-n))[j]?=some x->xs[i-n+j]?=some x/\i-n+j<d:=by grind
 have E:=RelP.sl (ν:=N.fn) (w:=w) (S:=T) .mem sz ((xs.take d).drop (i-n)) (some ⟨g,(i-n)*sz,none⟩) (cap-(i-n)) (λa b=>us.getD ((i-n+a)*sz+b) undef) (by omega) (by omega) (λx l=>by grind) (by simp) (by simp) (λ_=>⟨_,rfl,r⟩) (λQ p a x b c l t=>by
   cases p;let⟨l,L⟩:=m a x l;have B:b<sz:=by grind
   rw[Go.Addr.add_lit,<-Nat.add_assoc,<-Nat.add_mul];refine pr q (by rw[o];omega) ?_;calc(i-n+a)*sz+b<(i-n+a)*sz+sz:=by omega
    _=(i-n+a+1)*sz:=by grind
    _<=xs.length*sz:=Nat.mul_le_mul_right _ (by omega)) (λa x b c l t=>(C _ x _ c (m a x l).1 t).more F);grind
theorem jx{us:Array Value}{j:Nat}:us.getD j undef=us.toList.getD j undef:=getD_toList.symm
theorem tj(I:Rel N.fn w S μ H)(D:∀g,S g->T g)(J:∀(s:Nat)b g,H[s]?=some b->aO (μ s)=some g->T g):∀(d:Nat){v:AV}{u:Value}{p:PV},RelV N.fn w S μ H v u->aI H d v=some p->RelP N.fn w T p u:=by intro d;induction d with
 |zero=>intro v u p h k;cases v<;>simp[aI,]at k;subst k;exact h.p_inv.more D|succ d ih=>
  intro v u p h k;have r:∀{cs:List AV}{us:Array Value}{ps:List PV},mapO (aI H d) cs=some ps->us.size=cs.length->(∀c∈cs,c.one=true)->(∀j c,cs[j]?=some c->RelV N.fn w S μ H c (us.getD j undef))->us.size=ps.length/\(∀c∈ps,c.one=true)/\∀(j:Nat)c,ps[j]?=some c->RelP N.fn w T c (us.getD j undef):=by
   intro cs us ps A q y L;let⟨m1,Z⟩:=cx A;refine⟨by grind,λc o=>?_,λj c o=>?_⟩;·let⟨j,X⟩:=List.getElem?_of_mem o;let⟨a,K,C⟩:=Z j c X;exact mw C (y a (List.mem_of_getElem? K))
   grind
  cases v with
  |p v=>simp[aI,]at k;subst k;exact h.p_inv.more D|own s n=>simp only[aI,Option.map_eq_some_iff]at k;obtain⟨⟨sz,xs⟩,m,rfl⟩:=k;rw[h.own_inv m];let⟨f,q,_⟩:=cl m;exact pj I q D (λg B=>J s _ g q B)|bx s l=>
   simp[aI,Option.bind_eq_some_iff,]at k;obtain⟨cs,m,E,ps,A,rfl⟩:=k;have Y:=m;have m:=jo m;obtain⟨g,rfl,hl,B⟩:=h.bx_inv;let⟨g',z,t,e1,e2,e3,e4,e5⟩:=I.box_of Y;rw[B cs m]at e1;cases e1;let⟨m1,Z⟩:=cx A;have F:∀(j:Nat)c,ps[j]?=some c->∃a,cs[l+j]?=some a/\aI H d a=some c:=by grind
   refine .ptr ps _ (λj=>z.getD (l+j) undef) (λe=>?_) (J s _ g m (by rw[B cs m];rfl)) (λc o=>?_) (λj c o=>?_) (λj c o=>?_);·grind
   ·let⟨j,X⟩:=List.getElem?_of_mem o;let⟨a,K,C⟩:=F j c X;exact mw C (e4 a (List.mem_of_getElem? K))
   ·let⟨a,K,_⟩:=F j c o;have E:l+j<z.size:=by grind
    rw[Go.Addr.add_lit,Go.cell_of_row w g _ z t _ e2];simp_all
   grind|mp s=>simp[aI]at k|el s n i l=>
   simp only[aI]at k;split at k;·rename_i W;simp only[Option.bind_eq_some_iff,Option.ite_none_right_eq_some,Option.some.injEq]at k;obtain⟨⟨sz,xs⟩,m,⟨O,P,U⟩,rfl⟩:=k;exact NN I m h D (λf C g B=>J s _ g C B) W O P U
   simp only[Option.bind_eq_some_iff,Option.ite_none_right_eq_some,Option.some.injEq]at k;obtain⟨⟨sz,xs⟩,m,x,R,E,rfl⟩:=k;let⟨f,q,y⟩:=cl m;simp  at y R;have hi:i<n:=by grind
   obtain⟨f',sz',xs',g,cap,k1,k2,M,k4,rfl⟩:=h.el_inv (by simp[elOk,m,hi]);rw[q]at k1;cases k1;have Q:=I.blk s _ q;let⟨_,_,us,G,r2,r3,_⟩:=Q;rw[y]at G;have V:=r2 x (List.mem_of_getElem? R);refine .ptr _ _ (λj=>us.getD (i*sz+(l+j)) undef) (λe=>?_) ?_ (λc o=>V.2 c (List.mem_of_mem_drop o)) (λj c o=>?_) (λj c o=>?_);·rw[List.drop_eq_nil_iff]at e;omega
   ·refine J s _ g q ?_;rw[k4];simp[aO];let⟨_,G⟩:=G;grind
   ·rw[List.getElem?_drop]at o;have hlt2:l+j<sz:=by grind
    rw[Go.Addr.add_lit,Nat.add_assoc];refine pr G k4 ?_;calc i*sz+(l+j)<i*sz+sz:=by omega
     _=(i+1)*sz:=by grind
     _<=n*sz:=Nat.mul_le_mul_right _ hi
   ·rw[List.getElem?_drop]at o;exact(r3 i x _ c R o).more D|agg cs=>simp[aI,Option.map_eq_some_iff]at k;obtain⟨ps,A,rfl⟩:=k;cases h with|agg _ us q y L=>
   let⟨k1,k2,M⟩:=r A q y L;exact .agg ps us k1 k2 M|clo f cs=>simp[aI,Option.map_eq_some_iff]at k;obtain⟨ps,A,rfl⟩:=k;cases h with|clo _ _ us q y L=>
   let⟨k1,k2,M⟩:=r A q y L;exact .clo f ps us k1 k2 M|tup=>simp[aI]at k|nov=>simp[aI]at k|any=>simp[aI]at k
theorem rM{ν:Nat->Nat}{c:World}{d:Nat->Prop}{p:PV}{u:Value}(b:Ud p=true)(h:RelP ν w S p u):RelP ν c d p u:=by cases h with
 |int=>exact .int _ _|bool=>exact .bool _|str=>exact .str _|nilp=>exact .nilp|nilfn=>exact .nilfn|nilmap=>exact .nilmap|sl k sz xs a cap us i j m e f o l g=>cases k with
  |nil=>obtain⟨rfl,rfl,rfl⟩:=e (.inl rfl);exact .sl .nil sz [] none 0 us (Nat.le_refl _) (Nat.zero_le _) (by simp) (by simp) (by simp) (by simp) (by simp) (by simp)|tight=>cases b|any=>cases b|mem=>cases b
 |clo=>cases b|ptr=>cases b|agg=>cases b
theorem LX{ν:Nat->Nat}{d:World}{e:Nat->Prop}{p:PV}{u:Value}(a:flat p=true)(h:RelP ν w S p u):RelP ν d e p u:=by cases p with
 |agg cs=>cases h with|agg _ us g i f=>simp[flat,]at a;exact .agg cs us g i (λj c b=>rM (a c (List.mem_of_getElem? b)) (f j c b))
 |_=>exact rM a h
theorem Qi(K:Rel N.fn w S μ H)(C:∀(m:Nat)sz xs g,H[m]?=some (.row false sz xs)->aO (μ m)=some g->T g){d:Nat}{v:AV}{u:Value}{p:PV}(l:frC H v=true)(h:RelV N.fn w S μ H v u)(q:aI H d v=some p):RelP N.fn w T p u:=by cases v with
 |p v=>
  have e:p=v:=by cases d<;>simp[aI,]at q<;>exact q.symm
  subst e;exact rM l h.p_inv|own m n=>cases d with|zero=>simp[aI]at q|succ d=>
   simp only[aI,Option.map_eq_some_iff]at q;obtain⟨⟨sz,xs⟩,z,rfl⟩:=q;let⟨f,t,_⟩:=cl z;simp  at t;have l:f=false/\xs.all flat=true:=by simp[frC,]at l;grind
   obtain⟨rfl,l⟩:=l;rw[h.own_inv z];have b:=pj K t (T:=λg=>S g\/aO (μ m)=some g) (λ_ h=>.inl h) (λ_ h=>.inr h);generalize y:μ m=u at b⊢;cases b with|sl k sz xs a cap us F J A D L E G I=>
    refine .sl .any sz xs a cap us F J A D L (λo=>?_) G (λi x j c o s=>?_);·let⟨B,e,_⟩:=E o;refine⟨B,e,C m sz xs _ t ?_⟩;subst e;rw[y];simp[aO];have :=List.length_pos_iff.2 o;grind
    ·have r:=List.all_eq_true.1 l x (List.mem_of_getElem? o);refine rM ?_ (I i x j c o s);cases x with|agg cs=>exact List.all_eq_true.1 r c (List.mem_of_getElem? s)|_=>cases j with|zero=>simp[PV.cells,]at s;subst s;exact r|succ j=>simp[PV.cells]at s
 |_=>cases l
theorem frR_rel(r:Rel N.fn w S μ H)(q:∀(m:Nat)sz xs g,H[m]?=some (.row false sz xs)->aO (μ m)=some g->T g){d:Nat}{v:AV}{u:Value}{p:PV}(k:frR H v=true)(h:RelV N.fn w S μ H v u)(f:aI H d v=some p):RelP N.fn w T p u:=by cases v with
 |p v=>
  have e:p=v:=by cases d<;>simp[aI,]at f<;>exact f.symm
  subst e;exact LX k h.p_inv|agg cs=>cases d with|zero=>simp[aI]at f|succ d=>simp[aI,]at f;obtain⟨ps,x,rfl⟩:=f;let⟨A,s⟩:=cx x;cases h with|agg _ us B y z=>
   refine .agg ps us (by omega) (λc o=>?_) (λj c o=>?_);·let⟨j,t⟩:=List.getElem?_of_mem o;let⟨a,l,b⟩:=s j c t;exact mw b (y a (List.mem_of_getElem? l))
   ·let⟨a,l,b⟩:=s j c o;exact Qi r q (List.all_eq_true.1 k a (List.mem_of_getElem? l)) (z j a l) b
 |own m n=>exact Qi r q (show frC H (.own m n)=true from k) h f|_=>cases k
theorem EQ(l:Rel N.fn w S μ H){c:Nat}{f:Bool}{sz:Nat}{xs:List PV}(q:H[c]?=some (.row f sz xs)):Step N.fn w S μ H w (λg=>S g\/aO (μ c)=some g) μ (H.set c (.row true sz xs)):=by
 have t:∀(i:Nat)b,(H.set c (.row true sz xs))[i]?=some b->(i=c/\b=.row true sz xs)\/(i≠c/\H[i]?=some b):=by grind
 have C:Moves μ H μ (H.set c (.row true sz xs)):=by
  refine⟨by simp,λi M d ys A h=>?_,λi cs A h=>?_⟩;all_goals grind
 have D:∀(i:Nat)b,(H.set c (.row true sz xs))[i]?=some b->cW b->i≠c/\H[i]?=some b:=by
  intro i b h n;rcases t i b h with⟨rfl,rfl⟩|h;·rcases n with⟨cs,e⟩|⟨a,b,e⟩<;>cases e
  grind
 have p:∀g,alive μ (H.set c (.row true sz xs)) g->alive μ H g:=by intro g n;let⟨i,b,s,o,u⟩:=alive_iff.1 n;exact alive_iff.2 ⟨i,b,(D i b s o).2,o,u⟩
 refine⟨⟨λg h=>?_,λi b h=>?_,λg n r=>?_,λi j g hi F J I=>?_⟩,⟨rfl,rfl,rfl,Nat.le_refl _,λ_ _ _=>rfl,λg h=>.inl h,λg h _=>?_,λg h _=>p g h⟩,C⟩
 ·rcases h with h|h;·exact l.lt g h
  ·exact l.blk_lt q h
 ·have z:∀v,H[i]?=some v->BlkRel N.fn w (λg=>S g\/aO (μ c)=some g) μ (H.set c (.row true sz xs)) i v:=λv y=>(l.blk i v y).keep (λ_ h=>.inl h) (λ_ _=>rfl) C rfl (λ_ _=>rfl);rcases t i b h with⟨rfl,rfl⟩|⟨_,h⟩;·let⟨G,A,us,s,o,u,_⟩:=z _ q;exact⟨G,A,us,s,o,u,λ_ g K=>.inr K⟩
  grind
 ·rcases r with r|r;·exact l.apart g (p g n) r
  ·let⟨i,b,s,o,u⟩:=alive_iff.1 n;let⟨x,E⟩:=D i b s o;cases f with|false=>exact x (l.inj' E q o (.inr ⟨sz,xs,rfl⟩) u r)|true=>let⟨_,_,us,_,_,_,B⟩:=l.blk c _ q;exact l.apart g (p g n) (B rfl g r)
 ·have m:∀k:Nat,((∃cs,(H.set c (.row true sz xs))[k]?=some (Blk.box cs))\/∃d ys,(H.set c (.row true sz xs))[k]?=some (Blk.row false d ys))->(∃cs,H[k]?=some (Blk.box cs))\/∃d ys,H[k]?=some (Blk.row false d ys):=by grind
  exact l.inj i j g hi F (m i J) (m j I)
 ·rcases h with h|h;·grind
  ·cases f with|false=>exact .inr (alive_iff.2 ⟨c,_,q,.inr ⟨sz,xs,rfl⟩,h⟩)|true=>let⟨_,_,us,_,_,_,B⟩:=l.blk c _ q;grind
theorem Moves.trans{e d m l}(a:Moves μ H e m)(b:Moves e m d l):Moves μ H d l where
 len:=Nat.le_trans a.len b.len;row g f sz xs c h:=by let⟨q,j,k,u,p⟩:=b.row g f sz xs (Nat.lt_of_lt_of_le c a.len) h;let⟨v,n,o,t,r⟩:=a.row g q sz j c k;grind
 box g cs c h:=by let⟨i,k,p⟩:=b.box g cs (Nat.lt_of_lt_of_le c a.len) h;let⟨s,o,r⟩:=a.box g i c k;grind
theorem Step.trans{f i c j e g d h}(a:Step N.fn w S μ H f i c j)(b:Step N.fn f i c j e g d h):Step N.fn w S μ H e g d h:=⟨b.rel,a.ext.trans b.ext,a.moves.trans b.moves⟩
theorem Step.refl(b:Rel N.fn w S μ H):Step N.fn w S μ H w S μ H:=⟨b,Ext.refl,.refl⟩
theorem nj:∀(cs:List AV){S:Nat->Prop}{H:Heap},Rel N.fn w S μ H->∃d,Step N.fn w S μ H w d μ (freeze H cs)/\(∀(a:Nat)f sz xs,H[a]?=some (.row f sz xs)->∃b,(freeze H cs)[a]?=some (.row b sz xs)/\((∃n,AV.own a n∈cs)\/f=true->b=true))
 |[],S,H,g=>⟨S,.refl g,λa f sz xs h=>⟨f,h,λe=>by grind⟩⟩|c::cs,S,H,g=>by
  by_cases q:∃a n f sz xs,c=.own a n/\H[a]?=some (.row f sz xs)
  ·obtain⟨a,n,f,sz,xs,rfl,l⟩:=q;have o:=EQ g l;let⟨d,m,j⟩:=nj cs o.rel;have e:freeze H (.own a n::cs)=freeze (H.set a (.row true sz xs)) cs:=by simp[freeze,l]
   rw[e];refine⟨d,o.trans m,λi b k ys h=>?_⟩;by_cases s:i=a;·subst s;rw[l]at h;cases h;let⟨u,r,t⟩:=j i true sz xs (by grind);grind
   ·let⟨u,r,t⟩:=j i b k ys (by grind);grind
  ·have e:freeze H (c::cs)=freeze H cs:=by
    cases c<;>try rfl
    rename_i a n;simp[freeze];grind
   rw[e];let⟨d,m,j⟩:=nj cs g;grind
end
section


variable{Γ:Ctx}{N:Names}{P:Program}{w:World}{S T:Nat->Prop}{μ:Nat->Value}{H:Heap}
theorem run_askRoom(b:Nat):(Go.askRoom b).run P w=.ok () w:=by simp
theorem Ay{ν:Nat->Nat}{x:PV}{a:Array Value}{n sz:Nat}(l:x.cells.length=sz)(m:∀c∈x.cells,c.one=true)(q:a.size=sz)(h:0<sz)(p:∀(j:Nat)c,x.cells[j]?=some c->RelP ν w S c (a.getD j undef)){us:List Value}(f:∀t,t<n*sz->us.getD t undef=a.getD (t%sz) undef):FlatRel ν w S sz (List.replicate n x) us:=by
 refine⟨λy d=>?_,λi y j c d k=>?_⟩;·grind
 ·let⟨hi,e⟩:=List.getElem?_eq_some_iff.1 d;simp[]at hi;simp[]at e;subst e;have g:j<sz:=by grind
  have b:i*sz+j<n*sz:=by calc i*sz+j<i*sz+sz:=by omega
    _=(i+1)*sz:=by grind
    _<=n*sz:=Nat.mul_le_mul_right _ hi
  rw[f _ b,Nat.add_comm,Nat.add_mul_mod_self_right,Nat.mod_eq_of_lt g];grind
theorem GM(Y:Rel N.fn w S μ H){t e:TypeId}{i:Go.TypeInfo}{sz:Nat}{ag:Bool}{zero:List PV}{n c:Value}{U Z:AV}{r:AV×Heap}(hT:slT P t=some e)(hi:P.info? e=some i)(R:i.size=sz)(E:Bc P e zero=true)(L:zero.length=sz)(K:0<sz)(D:ag=false->sz=1)(hb:i.bytes<=65536)(hn:RelV N.fn w S μ H U n)(T:RelV N.fn w S μ H Z c)(p:lV H sz ag zero U Z=some r):∃u d b,(Go.Instr.makeSlice t n c).run P w=.ok u d/\Step N.fn w S μ H d S b r.2/\RelV N.fn d S b r.2 r.1 u/\∃o m a,d=w.alloc o/\u=.slice (some ⟨w.heap.size,0,none⟩) m a:=by
 have y:lim=1073741824:=rfl;unfold Bc at E;split at E;rotate_left;·grind
 rename_i z C;let⟨i',x,I⟩:=Option.bind_eq_some_iff.1 C;rw[hi]at x;cases x;let⟨z1,W,z3⟩:=mF (ν:=N.fn) (w:=w) (S:=S) E;have v:z.cells.size=sz:=by grind
 unfold lV at p;split at p;rotate_left;·grind
 rename_i k1 n k2 c;rw[hn.int_inv,T.int_inv];have run:∀m a:Nat,m<=a->a<=lim->n=m->c=a->(Go.Instr.makeSlice t (.int k1 n) (.int k2 c)).run P w=.ok (.slice (some ⟨w.heap.size,0,none⟩) m a) (w.alloc (.cells ((Array.range (a*sz)).map (z.cells[·%z.cells.size]!)) e)):=by
  intro m a F h2 A e2;subst A e2;have w1:IntKind.i64.wrap (m:Int)=m:=wrap_i64 (by omega) (by omega);have w2:IntKind.i64.wrap (a:Int)=a:=wrap_i64 (by omega) (by omega);have big:¬((i.bytes:Int)*(a:Int)>2^48):=by have :=Nat.mul_le_mul hb (by omega);grind
  have n1:¬((a:Int)<0):=by omega
  have n2:¬((m:Int)<0):=by omega
  have n3:¬((m:Int)>a):=by omega
  have O:(decide ((a:Int)<0)||decide ((i.bytes:Int)*(a:Int)>2^48)||decide ((m:Int)<0)||decide ((m:Int)>a))=false:=by grind
  simp only[Go.Instr.makeSlice,Go.Sem.run_bind,Go.run_underlying (cZ hT),Go.Result.andThen_ok,Go.asInt,Go.asIntOf,Go.Sem.run_pure,w1,w2];simp only[O,Bool.false_eq_true,if_false,Go.Sem.run_bind,run_askRoom,Go.Result.andThen_ok,Go.sizeOf,Go.typeInfo,Go.run_program,hi,Go.Sem.run_pure,R,Int.toNat_natCast];by_cases h5:a*sz=0
  ·have e0:∀f:Nat->Value,(Array.range 0).map f=#[]:=λf=>by simp
   simp only[h5,if_true,e0];rfl
  ·simp only[h5,if_false,Go.Sem.run_bind,Go.zeroValue,Go.typeInfo,Go.run_program,hi,Go.Sem.run_pure,Go.Result.andThen_ok,I];rfl
 have get:∀a s:Nat,s<a*sz->((Array.range (a*sz)).map (z.cells[·%z.cells.size]!)).getD s undef=z.cells.getD (s%sz) undef:=by
  intro a s X;have hm:s%sz<z.cells.size:=by rw[v];exact Nat.mod_lt _ K
  simp_all
 have xc:(if ag=true then PV.agg zero else zero.headD .nilp).cells=zero:=by cases ag with|true=>rfl|false=>have :=D rfl;match zero,L with|[q],_=>exact PV.cells_one (W q (by simp))|[],h=>grind|_::_::_,h=>grind
 have V:∀m a:Nat,m<=a->a<=lim->n=m->c=a->∀xs,xs=List.replicate m (if ag=true then PV.agg zero else zero.headD .nilp)->∃u d b,(Go.Instr.makeSlice t (.int k1 n) (.int k2 c)).run P w=.ok u d/\Step N.fn w S μ H d S b (H++[.row false sz xs])/\RelV N.fn d S b (H++[.row false sz xs]) (.own H.length m) u/\∃o m a,d=w.alloc o/\u=.slice (some ⟨w.heap.size,0,none⟩) m a:=by
  intro m a F h2 A e2 xs G;have M:xs.length=m:=by grind
  have B:=Grows.alloc w (.cells ((Array.range (a*sz)).map (z.cells[·%z.cells.size]!)) e);have hle:m*sz<=a*sz:=Nat.mul_le_mul_right _ F;have k:RowAt (w.alloc (.cells ((Array.range (a*sz)).map (z.cells[·%z.cells.size]!)) e)) (.slice (some ⟨w.heap.size,0,none⟩) m a) sz m (((Array.range (a*sz)).map (z.cells[·%z.cells.size]!)).toList.take (m*sz)):=by
   refine⟨by grind,?_⟩;by_cases hcp:a=0;·grind
   ·exact .inr ⟨w.heap.size,a,_,e,rfl,by omega,⟨_,Go.heap_alloc_new w _,.inl rfl⟩,F,by simp only[maxLen];omega,by simp,rfl⟩
  have J:FlatRel N.fn (w.alloc (.cells ((Array.range (a*sz)).map (z.cells[·%z.cells.size]!)) e)) S sz xs (((Array.range (a*sz)).map (z.cells[·%z.cells.size]!)).toList.take (m*sz)):=by
   rw[G];refine(Ay (by grind) (λc T=>W c (by grind)) v K (λj c T=>?_) (λs X=>?_)).keep (Y.keepS B);·simp_all
   ·rw[List.getD_eq_getElem?_getD,List.getElem?_take,if_pos X,<-List.getD_eq_getElem?_getD,getD_toList];grind
  rw[<-M]at k;obtain⟨b,s1,s2⟩:=fG Y B K (by omega) k (by grind) (λg B=>by simp only[aO]at B;grind);grind
 split at p
 ·rename_i Q;obtain⟨g1,g2,g3⟩:=Q;simp only[Option.some.injEq]at p;subst p;have A:n=(n.toNat:Int):=by omega
  exact V n.toNat n.toNat (Nat.le_refl _) (by omega) A (by omega) _ rfl
 ·simp only[Option.ite_none_right_eq_some,Option.some.injEq]at p;obtain⟨⟨g1,g2,g3⟩,rfl⟩:=p;exact V 0 c.toNat (Nat.zero_le _) (by omega) (by grind) (by omega) _ (by simp)
end
section


variable{Γ:Ctx}{N:Names}{P:Program}{w:World}{S:Nat->Prop}{μ:Nat->Value}{H:Heap}
theorem x_range(j:Rel N.fn w S μ H){T:TypeId}{x:Value}{e:AV}{r:AV×Heap}(i:strT P T=true)(h:RelV N.fn w S μ H e x)(c:FF H e=some r):∃u d a,(Go.Instr.range T x).run P w=.ok u d/\Step N.fn w S μ H d S a r.2/\RelV N.fn d S a r.2 r.1 u:=by
 unfold FF at c;split at c;rotate_left;·grind
 rename_i s;simp[]at c;subst c;rw[h.str_inv];refine⟨.pointer (some ⟨w.heap.size,0,none⟩),w.alloc (.stringIter ⟨s.toArray⟩ 0),upd μ H.length (.pointer (some ⟨w.heap.size,0,none⟩)),?_,Step.push j (Grows.alloc w _) ?_ ?_,?_⟩;·simp[Go.Instr.range,Go.run_underlying (gT i),]
 ·exact⟨w.heap.size,upd_same,.inr (.inl ⟨s,0,rfl,Go.heap_alloc_new w _⟩)⟩
 ·intro g f;simp[aO,]at f;omega
 ·exact .bx _ _ w.heap.size _ (by simp) (λ_ _=>upd_same) rfl
theorem x_next(C:Rel N.fn w S μ H){ty:TypeId}{x:Value}{F:AV}{r:AV×Heap}(I:RelV N.fn w S μ H F x)(f:NX H F=some r):∃u B v,(Go.Instr.next x true ty).run P w=.ok u B/\Step N.fn w S μ H B S v r.2/\RelV N.fn B S v r.2 r.1 u:=by
 unfold NX at f;split at f;rotate_left;·grind
 rename_i o;split at f;rotate_left;·grind
 rename_i s J l;obtain⟨g,rfl,R,E⟩:=I.bx_inv;obtain⟨Q,G,⟨D,t,q,A,K,U⟩|⟨O,a,q,A⟩|⟨T,D,z,q,_⟩⟩:=C.blk o _ l;·exact absurd (K .nov (by simp)) (by simp[AV.one])
 rotate_left;·simp[ak]at q
 simp[bX,]at q;obtain⟨rfl,rfl⟩:=q;rw[E _ l]at G;cases G;by_cases n:(a:Int)<s.length
 ·have b:a<s.length:=by omega
  rw[if_pos n]at f;simp[]at f;subst f;have M:Moves μ H (upd μ o (.pointer (some ⟨g,0,none⟩))) (H.set o (.box (bX s (a+(jc s a).2)))):=mU l (E _ l).symm;have L:∀k,k<w.heap.size->aO (μ o)≠some k->({w with heap:=w.heap.setIfInBounds g (.stringIter ⟨s.toArray⟩ (a+(jc s a).2))}:World).heap[k]?=w.heap[k]?:=by intro k _ m;rw[E _ l]at m;have :g≠k:=λe=>m (by rw[e];rfl);grind
  refine⟨.tuple #[.bool true,.int .i64 a,.int .i32 (jc s a).1],{w with heap:=w.heap.setIfInBounds g (.stringIter ⟨s.toArray⟩ (a+(jc s a).2))},upd μ o (.pointer (some ⟨g,0,none⟩)),?_,?_,?_⟩;·have i:=size_mk s;simp[Go.Instr.next,Go.getObj,Go.setObj,Go.Sem.run,A,i,b,jc,Go.goInt]
  ·refine Step.set C l (.inl ⟨_,rfl⟩) rfl rfl rfl (by simp) L M ?_ (λk h=>.inl (by grind));exact⟨g,upd_same,.inr (.inl ⟨s,_,rfl,by grind⟩)⟩
  ·refine .tup _ _ (by simp) λj c d=>?_;match j with|0=>simp[]at d;subst d;exact .p _ _ (.bool _)|1=>simp[]at d;subst d;exact .p _ _ (.int _ _)|2=>simp[]at d;subst d;exact .p _ _ (.int _ _)|j+3=>grind
 ·have b:¬a<s.length:=by omega
  rw[if_neg n]at f;simp[]at f;subst f;refine⟨.tuple #[.bool false],w,μ,?_,.refl C,?_⟩;·have i:=size_mk s;simp[Go.Instr.next,Go.getObj,Go.Sem.run,A,i,b]
  ·refine .tup _ _ (by simp) λj c d=>?_;match j with|0=>simp[]at d;subst d;exact .p _ _ (.bool _)|j+1=>grind
theorem RelO.step{e:World}{f:Nat->Prop}{a:Nat->Value}{d:Heap}(i:Rel N.fn w S μ H)(b:Step N.fn w S μ H e f a d):∀{o:Option AV}{u:Option Value},RelO N.fn w S μ H o u->RelO N.fn e f a d o u:=by
 intro o u h;unfold RelO at*;split at h;·simp
 ·exact RelV.keep b.ext.more (λg c=>b.ext.keep g (i.lt g c) (i.stable c).2) b.moves h
 grind
theorem x_slicef{T e:TypeId}{sz:Nat}{x:Value}{C:AV}{r:AV×Heap}{lo hi:Option AV}{i k:Option Value}(p:Rel N.fn w S μ H)(E:slT P T=some e)(I:(P.info? e).map (·.size)=some sz)(B:RelV N.fn w S μ H C x)(j:RelO N.fn w S μ H lo i)(m:RelO N.fn w S μ H hi k)(d:qM H sz C lo hi=some r):∃u z s h,(Go.Instr.sliceAt T x i k none).run P w=.ok u z/\Step N.fn w S μ H z s h r.2/\RelV N.fn z s h r.2 r.1 u:=by
 unfold qM at d;split at d
 ·rename_i o n;let⟨q,f,d⟩:=Option.bind_eq_some_iff.1 d;obtain⟨v,b,rfl⟩:=Option.map_eq_some_iff.1 d;let⟨s,a,l⟩:=nj [.own o n] p;let⟨K,G,Q⟩:=cl f;let⟨O,t,y⟩:=l o K q.1 q.2 G;have :=y (.inl ⟨n,by simp⟩);subst this;have L:RelP N.fn w s (.sl .any q.1 q.2) (μ o):=by refine pj p G a.ext.more λg R=>?_;let⟨_,_,us,_,_,_,M⟩:=a.rel.blk o _ t;grind
  have A:=B.own_inv f;rw[A];let⟨u,J,D⟩:=Ht E I (RelV.p (μ:=μ) (H:=freeze H [.own o n]) _ _ L) (RelO.step p a j) (RelO.step p a m) b;grind
 ·obtain⟨v,b,rfl⟩:=Option.map_eq_some_iff.1 d;let⟨u,J,D⟩:=Ht E I B j m b;exact⟨u,w,S,μ,J,.refl p,D⟩
end
section


variable{ν:Nat->Nat}{w:World}{S:Nat->Prop}{μ:Nat->Value}{H:Heap}
theorem Step.pop(r:Rel ν w S μ H){a sz:Nat}{xs ys:List PV}{v:Value}(C:H[a]?=some (.row false sz xs))(K:∀g,aO v=some g->aO (μ a)=some g)(W:∀o I,o H.length=v->BlkRel ν w S o I H.length (.row false sz ys)):Step ν w S μ H w S (upd (upd μ a undef) H.length v) (H.set a .dead++[.row false sz ys]):=by
  have P:=(List.getElem?_eq_some_iff.1 C).1;have y:cW (.row false sz xs):=.inr ⟨sz,xs,rfl⟩;have e:∀(i:Nat)c,(H.set a .dead++[.row false sz ys])[i]?=some c->(i≠a/\i<H.length/\H[i]?=some c)\/(i=a/\c=.dead)\/(i=H.length/\c=.row false sz ys):=by grind
  have E:∀i,i≠a->i<H.length->upd (upd μ a undef) H.length v i=μ i:=λi x m=>by rw[upd_ne (by omega),upd_ne x]
  have B:∀g,alive (upd (upd μ a undef) H.length v) (H.set a .dead++[.row false sz ys]) g->alive μ H g:=by
    intro g z;let⟨i,c,x,m,t⟩:=alive_iff.1 z;rcases e i c x with⟨b,l,h⟩|⟨rfl,rfl⟩|⟨rfl,rfl⟩;·rw[E i b l]at t;exact alive_iff.2 ⟨i,c,h,m,t⟩
    ·rcases m with⟨cs,m⟩|⟨_,_,m⟩<;>cases m
    ·rw[upd_same]at t;exact alive_iff.2 ⟨a,_,C,y,K g t⟩
  have F:Moves μ H (upd (upd μ a undef) H.length v) (H.set a .dead++[.row false sz ys]):=by
    refine⟨by simp,λi f s q l h=>?_,λi cs l h=>?_⟩;all_goals grind
  refine⟨⟨r.lt,λi c n=>?_,λg z M=>r.apart g (B g z) M,λi j g hi R U T=>?_⟩,⟨rfl,rfl,rfl,Nat.le_refl _,λ_ _ _=>rfl,λ_ h=>h,λ_ h _=>.inl h,λg h _=>B g h⟩,F⟩
  · rcases e i c n with⟨b,l,h⟩|⟨rfl,rfl⟩|⟨rfl,rfl⟩;·exact(r.blk i c h).keep (λ_ h=>h) (λ_ _=>rfl) F (E i b l) (λ_ _=>rfl)
    ·intro g u;rw[upd_ne (by omega),upd_same]at u;simp[aO,undef]at u
    simp[*]
  · have p:∀k:Nat,((∃cs,(H.set a .dead++[.row false sz ys])[k]?=some (Blk.box cs))\/∃s q,(H.set a .dead++[.row false sz ys])[k]?=some (Blk.row false s q))->∀g,aO (upd (upd μ a undef) H.length v k)=some g->∃i c,H[i]?=some c/\cW c/\aO (μ i)=some g/\((k=i/\i≠a/\i<H.length)\/(k=H.length/\i=a)):=by
      rintro k L g u;have :∃c,(H.set a .dead++[.row false sz ys])[k]?=some c/\cW c:=by
        rcases L with⟨cs,h⟩|⟨s,q,h⟩;·exact⟨_,h,.inl ⟨cs,rfl⟩⟩
        ·exact⟨_,h,.inr ⟨s,q,rfl⟩⟩
      let⟨c,n,D⟩:=this;rcases e k c n with⟨b,l,h⟩|⟨rfl,rfl⟩|⟨rfl,rfl⟩;·grind
      ·grind
      ·rw[upd_same]at u;grind
    let⟨Y,c,n,D,N,V⟩:=p i U g hi;let⟨X,d,Q,G,J,O⟩:=p j T g R;have :=r.inj' n Q D G N J;grind
end
section


variable{Γ:Ctx}{N:Names}{P:Program}{w:World}{S:Nat->Prop}{μ:Nat->Value}{H:Heap}
theorem x_pop{T e:TypeId}{sz:Nat}{x hi:Value}{W A:AV}{r:AV×Heap}(Q:Rel N.fn w S μ H)(Y:slT P T=some e)(U:(P.info? e).map (·.size)=some sz)(J:RelV N.fn w S μ H W x)(B:RelV N.fn w S μ H A hi)(o:popA H sz W A=some r):∃u O V b,(Go.Instr.sliceAt T x none (some hi) none).run P w=.ok u O/\Step N.fn w S μ H O V b r.2/\RelV N.fn O V b r.2 r.1 u:=by
 unfold popA at o;split at o;rotate_left;·grind
 rename_i X n k h;split at o;rotate_left;·grind
 rename_i a xs C;simp[]at o;obtain⟨⟨rfl,rfl,h1,h2⟩,rfl⟩:=o;have K:rowOf H X xs.length=some (a,xs):=by simp[rowOf,C]
 have z:=J.own_inv K;let⟨p0,p1,us,p2,p3,p4,p5⟩:=Q.blk X _ C;have q:bound xs.length xs.length (some (.p (.int k h)))=some h.toNat:=by simp[bound];grind
 have m:∀(v:Value),RowAt w v a h.toNat (us.take (h.toNat*a))->∀b R,b H.length=v->BlkRel N.fn w S b R H.length (.row false a (xs.take h.toNat)):=by
  intro v o b R hμ;refine⟨p0,by grind,us.take (h.toNat*a),?_,λx J=>p3 x (List.mem_of_mem_take J),λi x j c hi hj=>?_,λhf=>by grind⟩;·grind
  ·let⟨M,hi2⟩:=jB hi;have :i*a+j<h.toNat*a:=by have :(i+1)*a<=h.toNat*a:=Nat.mul_le_mul_right _ M;grind
   grind
 let⟨q1,I⟩:=p2;have y:(us.take (h.toNat*a)).length=h.toNat*a:=by simp[*]
 rcases I with⟨I,E,D⟩|⟨g,cap,L,t,D,q4,q5,q6,q7,q8,q9⟩
 ·have Z:h.toNat=0:=by omega
  have l:=gy (P:=P) (N:=N) (S:=S) (μ:=μ) (H:=H) (w:=w) (sl:=true) (cap:=0) (lo:=none) (lo':=none) (hi:=some (.p (.int k h))) (hi':=some hi) trivial B (show xs.length<=0 by omega) q (by rfl);rw[z,D];have d:RowAt w (.slice E 0 0) a h.toNat (us.take (h.toNat*a)):=⟨y,.inl ⟨Z,E,rfl⟩⟩;refine⟨.slice E 0 0,w,S,_,?_,Step.pop Q C (v:=.slice E 0 0) (by grind) (m _ d),?_⟩;·rw[I,Z]at l;simp[Go.Instr.sliceAt,Go.Instr.slice,Go.run_underlying (cZ Y),l.1,run_sizeOf U]
  ·refine .own _ _ _ (by simp) (λf s zs F=>?_) rfl;simp[*]
 ·have l:=gy (P:=P) (N:=N) (S:=S) (μ:=μ) (H:=H) (w:=w) (sl:=true) (cap:=cap) (lo:=none) (lo':=none) (hi:=some (.p (.int k h))) (hi':=some hi) trivial B q6 q (by rfl);rw[z,D];have d:RowAt w (.slice (some ⟨g,0,none⟩) h.toNat cap) a h.toNat (us.take (h.toNat*a)):=⟨y,.inr ⟨g,cap,L,t,rfl,q4,q5,by omega,q7,q8,by grind⟩⟩;refine⟨.slice (some ⟨g,0,none⟩) h.toNat cap,w,S,_,?_,Step.pop Q C (v:=.slice (some ⟨g,0,none⟩) h.toNat cap) (by rw[D];intro k hk;simpa[aO]using hk) (m _ d),?_⟩
  ·have hne:¬cap=0:=by omega
   simp[Go.Instr.sliceAt,Go.Instr.slice,Go.run_underlying (cZ Y),l.1,run_sizeOf U,Addr.add]
  ·refine .own _ _ _ (by simp) (λf s zs F=>?_) rfl;rw[List.getElem?_append_right (by simp)]at F;simp at F;obtain⟨_,_,rfl⟩:=F;simp[*]
end
end Ab
