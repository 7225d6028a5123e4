import Derived.Test.YtbehhmffelnmfaaGreatDoorLSt16
set_option linter.all false
namespace Ab
open Go (IntKind)
theorem SinceK.set{K:Nat->Prop}{A B:Heap}(h:SinceK K A B){i:Nat}(b:Blk)(hk:K i):SinceK K A (B.set i b)where
 len:=by rw[List.length_set];exact h.len
 box j cs hj hn:=by rw[List.getElem?_set_ne (λe=>hn (by rw[<-e];exact hk))];exact h.box j cs hj hn
theorem SinceK.app{K:Nat->Prop}{A B:Heap}(h:SinceK K A B)(G:Heap):SinceK K A (B++G):=h.trans (SinceB.app B G).k
theorem SinceK.refl{K:Nat->Prop}(A:Heap):SinceK K A A:=(SinceB.refl A).k
structure RfS(X room:Nat)(H0:Heap)(l:Fl)(c:Nat)(H:Heap):Prop where
 x:∃k w lv,H[X]?=some (.box [.p (.int .i64 (room:Int)),.p (.sl k 2 (filP l)),.p w,lv])/\ChR H0.length H lv c
 since:Since (λi=>i=X) H0 H
section


variable{X room:Nat}{H0 H:Heap}{l:Fl}{c:Nat}{s:List UInt8}
theorem RfS.keep{H':Heap}{K:Nat->Prop}(h:RfS X room H0 l 0 H)(hS:Since K H H')(hk:¬K X):RfS X room H' l 0 H':=by
 obtain⟨k,w,lv,h1,h2⟩:=h.x;refine⟨⟨k,w,lv,hS.box X _ h1 hk,?_⟩,.refl _⟩;rcases h2 with⟨_,h2⟩|⟨id,xs,_,_,_,q1,q2⟩;·exact .inl ⟨rfl,h2⟩
 ·omega
theorem RfS.app(h:RfS X room H0 l c H)(G:Heap):RfS X room H0 l c (H++G):=by obtain⟨k,w,lv,h1,h2⟩:=h.x;exact⟨⟨k,w,lv,(Since.app (K:=λ_=>False) H G).box X _ h1 (λe=>e),h2.keep (Since.app (K:=λ_=>False) H G)⟩,h.since.trans (Since.app _ _)⟩
theorem r3_do{l':Fl}(h:RfS X room H0 l c H)(x0 x1 x2 x3:PV)(h0:x0.one=true)(h1:x1.one=true)(h2:x2.one=true)(h3:x3.one=true)(hcc:c<=1000)(hd:∀k,res Γ 612 [.sl k 2 (filP l),.agg [x0,x1,x2,x3]]=some [.sl .any 2 (filP l')]):∃H',resW Γ 600 [.bx X 0,.p (.agg [x0,x1,x2,x3])] H=some ([.p (.int .i64 0)],H')/\RfS X room H0 l' (c+1) H'/\SinceK (λi=>i=X) H H':=by
 obtain⟨k,w,lv,hx,hc⟩:=h.x;have hxl:=(List.getElem?_eq_some_iff.1 hx).1;have hd:=hd k;have c0:x0.cells=[x0]:=by cases x0<;>first|rfl|cases h0
 have c1:x1.cells=[x1]:=by cases x1<;>first|rfl|cases h1
 have c2:x2.cells=[x2]:=by cases x2<;>first|rfl|cases h2
 have c3:x3.cells=[x3]:=by cases x3<;>first|rfl|cases h3
 have hx':∀G:Heap,(H++G)[X]?=some (.box [.p (.int .i64 (room:Int)),.p (.sl k 2 (filP l)),.p w,lv]):=λG=>by rw[List.getElem?_append_left hxl];exact hx
 have hs1:∀(G:Heap)b,((H++G).set X b)[X]?=some b:=λG b=>List.getElem?_set_self (by simp;omega);have hS1:Since (λi=>i=X) H (H++[Blk.box [.p x0,.p x1,.p x2,.p x3]]):=Since.app _ _;have hne:X≠H.length:=by omega
 have hb1:∀(b:Blk),((H++[Blk.box [.p x0,.p x1,.p x2,.p x3]]).set X b)[H.length]?=some (Blk.box [.p x0,.p x1,.p x2,.p x3]):=λb=>by rw[List.getElem?_set_ne hne];simp
 have hs2:∀(b:Blk)(G:Heap),((H++[Blk.box [.p x0,.p x1,.p x2,.p x3]]).set X b++G)[X]?=some b:=λb G=>by rw[List.getElem?_append_left (by simp;omega)];exact hs1 _ _
 rcases hc with⟨hc0,rfl⟩|⟨id,xs,rfl,hB,hrow,hpos,hle⟩
 ·refine⟨((H++[Blk.box [.p x0,.p x1,.p x2,.p x3]]).set X (.box [.p (.int .i64 (room:Int)),.p (.sl .any 2 (filP l')),.p w,.p (.sl .nil 4 [])])++[Blk.row false 4 [.agg [x0,x1,x2,x3]]]).set X (.box [.p (.int .i64 (room:Int)),.p (.sl .any 2 (filP l')),.p w,.own (H.length+1) 1]),?_,⟨⟨.any,w,.own (H.length+1) 1,List.getElem?_set_self (by simp;omega),.inr ⟨H.length+1,[.agg [x0,x1,x2,x3]],rfl,by have :=h.since.len;omega,?_,by simp,by simp⟩⟩,?_⟩,?_⟩;·refine ah (fn:=pk) rfl rfl ?_;simp(disch:=first|exact Dq|fail)only[go_sem,pk,hx',dB,hd,hs1,hb1,hs2,len2,List.length_set]
  ·rw[List.getElem?_set_ne (by omega),List.getElem?_append_right (by simp)];simp
  ·exact((h.since.trans (Since.app _ _)).set (.inl ⟨rfl,_,hx' _⟩)).trans ((Since.app _ _).set (.inl ⟨rfl,_,hs2 _ _⟩))
  ·exact((((SinceK.refl H).app _).set _ (by rfl)).app _).set _ (by rfl)
 ·have hidl:=(List.getElem?_eq_some_iff.1 hrow).1;have iX:id≠X:=λe=>by rw[e,hx]at hrow;cases hrow
  have hrow':∀b,((H++[Blk.box [.p x0,.p x1,.p x2,.p x3]]).set X b)[id]?=some (.row false 4 xs):=λb=>by rw[List.getElem?_set_ne iX.symm,List.getElem?_append_left hidl];exact hrow
  have hs3:∀b b2,(((H++[Blk.box [.p x0,.p x1,.p x2,.p x3]]).set X b).set id b2)[X]?=some b:=λb b2=>by rw[List.getElem?_set_ne iX];exact hs1 _ _
  refine⟨(((H++[Blk.box [.p x0,.p x1,.p x2,.p x3]]).set X (.box [.p (.int .i64 (room:Int)),.p (.sl .any 2 (filP l')),.p w,.own id xs.length])).set id (.row false 4 (xs++[.agg [x0,x1,x2,x3]]))).set X (.box [.p (.int .i64 (room:Int)),.p (.sl .any 2 (filP l')),.p w,.own id (xs.length+1)]),?_,⟨⟨.any,w,.own id (xs.length+1),List.getElem?_set_self (by simp;omega),.inr ⟨id,xs++[.agg [x0,x1,x2,x3]],by simp,hB,?_,by simp,by simp;omega⟩⟩,?_⟩,?_⟩;·refine ah (fn:=pk) rfl rfl ?_;simp(disch:=first|exact Dq|fail)only[go_sem,pk,hx',dB,hd,hs1,hb1,hrow',hs3]
  ·rw[List.getElem?_set_ne iX.symm,List.getElem?_set_self (by simp;omega)]
  ·exact(((h.since.trans (Since.app _ _)).set (.inl ⟨rfl,_,hx' _⟩)).set (.inr hB)).set (.inl ⟨rfl,_,hs3 _ _⟩)
  ·exact((((SinceK.refl H).app _).set _ (by rfl)).row (hrow' _) _).set _ (by rfl)
end
section


variable{X room:Nat}{H0 H:Heap}{l:Fl}{c:Nat}{s:List UInt8}
theorem QE{l:Fl}{i:Nat}(h:i<l.length):used (l.take (i+1))=used (l.take i)+(l.getD i ([],[])).2.length:=by rw[List.take_add_one,List.getD_eq_getElem?_getD,List.getElem?_eq_getElem h];simp only[used,List.map_append,List.sum_append,List.map_cons,List.map_nil,List.sum_cons,List.sum_nil,Option.toList,Nat.add_zero,Option.getD_some]
theorem Hd{l:Fl}{i:Nat}:used (l.take i)<=used l:=by
 have :used l=used (l.take i)+used (l.drop i):=by
  conv=>lhs;rw[<-List.take_append_drop i l]
  simp only[used,List.map_append,List.sum_append]
 omega
theorem FJ{k:SK}{w:PV}{lv:AV}(hx:H[X]?=some (.box [.p (.int .i64 (room:Int)),.p (.sl k 2 (filP l)),.p w,lv]))(hl:l.length<=100000)(hu:used l<=1000000000)(Q:Out->Prop)(hQ:∀e,look e 3=.p (.int .i64 (used l:Int))->Q (.ex 0,e,H)):∀(f i:Nat),i+f=l.length->Wp Γ gH [(0,.bx X 0),(3,.p (.int .i64 (used (l.take i):Int))),(4,.p (.int .i64 (i:Int)))] H Q:=by intro f;induction f with
 |zero=>
  intro i hi;have hi:i=l.length:=by omega
  subst hi;rw[List.take_length];rw[aa (L:=gH) rfl];simp(disch:=first|exact Dq|fail)only[go_sem,gH,hx,fy];exact hQ _ rfl|succ f ih=>
  intro i hi;have hlt:i<l.length:=by omega
  have hia:=jQ (H:=H) (k:=k) hlt;have ih:=ih (i+1) (by omega);have hut:=QE hlt;have h1:=@Hd l (i+1);have hb:=@aK (l.getD i ([],[])).2;rw[hut]at ih;have ec:((used (l.take i)+(l.getD i ([],[])).2.length:Nat):Int)=(used (l.take i):Int)+((l.getD i ([],[])).2.length:Int):=by omega
  rw[ec]at ih;rw[aa (L:=gH) rfl];simp(disch:=first|exact Dq|fail)only[go_sem,gH,hx,fy,hia,hb];exact ih
theorem r3_used(h:RfS X room H0 l c H)(hl:l.length<=100000)(hu:used l<=1000000000):resW Γ 601 [.bx X 0] H=some ([.p (.int .i64 (used l:Int))],H):=by obtain⟨k,w,lv,hx,hc⟩:=h.x;refine ah (fn:=pM) rfl rfl ?_;simp(disch:=first|exact Dq|fail)only[go_sem,pM];refine FJ hx hl hu _ (λe he=>?_) l.length 0 (by omega);simp(disch:=first|exact Dq|fail)only[go_sem,he]
theorem Ka:aw Γ 600=true:=rfl
theorem still601:aw Γ 601=true:=rfl
theorem UG(hg:fget s l=none):fixI s l=-1:=if_neg (by rw[wm hg];omega)
theorem QJ(h:RfS X room H0 l c H)(h1:1<=s.length)(h2:s.length<=255)(hg:fget s l=none)(hl:l.length<=1000){k k1 k2:SK}(b d:List UInt8)(hb:b.length<=10000)(hd:d.length<=10000)(hc:c<=1000)(hr:room<=1000000000)(hu:used l+(b.length+d.length)<=room):∃H',resW Γ 593 [.bx X 0,.p (.str s),.p (.sl k 1 [.sl k1 1 (ao b),.sl k2 1 (ao d)])] H=some ([.p (.int .i64 0)],H')/\RfS X room H0 (fput s (b++d) l) (c+1) H'/\SinceK (λi=>i=X) H H':=by
 obtain⟨H',a1,a2,a3⟩:=r3_do h (.int .i64 1) (.str s) (.int .i64 0) (.sl .any 1 (ao (b++d))) rfl rfl rfl rfl hc (λk=>TV l (by omega) s (b++d) hg);rw[wa hg];refine⟨H',?_,a2,a3⟩;have u1:=r3_used h (by omega) (by omega);obtain⟨kk,w,lv,hx,_⟩:=h.x;have e1:=HA (k:=k) (k1:=k1) (k2:=k2) b d (by omega) (by omega);have e2:=rW s h1 h2;have e3:=jp (k:=kk) l (by omega) s;rw[UG hg]at e3;have hk:=GW hx;have hbl:(ao (b++d)).length=b.length+d.length:=by rw[aK,List.length_append]
 refine ah (fn:=lF) rfl rfl ?_;simp(disch:=first|exact Dq|fail)only[go_sem,lF,e1,e2,hx,e3,hbl,still601,u1,hk,Ka,a1]
theorem r3_write(h:RfS X room H0 l c H)(h1:1<=s.length)(h2:s.length<=255){b:List UInt8}(hg:fget s l=some b)(hl:l.length<=1000)(hb:b.length<=100000){k k1:SK}(a:Nat)(d:List UInt8)(hd:a+d.length<=b.length)(ha:a<b.length)(hc:c<=1000):∃H',resW Γ 614 [.bx X 0,.p (.str s),.p (.int .i64 (a:Int)),.p (.sl k 1 [.sl k1 1 (ao d)])] H=some ([.p (.int .i64 0)],H')/\RfS X room H0 (fput s (spl b a d) l) (c+1) H'/\SinceK (λi=>i=X) H H':=by obtain⟨H',a1,a2,a3⟩:=r3_do h (.int .i64 2) (.str s) (.int .i64 (a:Int)) (.sl .any 1 (ao d)) rfl rfl rfl rfl hc (λk=>Sx l (by omega) s b hg hb a d hd ha);refine⟨H',?_,a2,a3⟩;obtain⟨kk,w,lv,hx,_⟩:=h.x;have e1:=IU (k:=k) (k1:=k1) d (by omega);have e2:=rW s h1 h2;have e3:=jp (k:=kk) l (by omega) s;obtain⟨f1,f2⟩:=lO hg;have e:fixI s l=(fix s l:Int):=if_pos f1;rw[e]at e3;have hia:=jQ (H:=H) (k:=kk) f1;rw[f2]at hia;have hbl:=@aK b;have hdl:=@aK d;refine ah (fn:=kC) rfl rfl ?_;simp(disch:=first|exact Dq|fail)only[go_sem,kC,e1,e2,hx,e3,hia,hbl,hdl,Ka,a1]
theorem UC(h:RfS X room H0 l c H):∃H',resW Γ 591 [.bx X 0] H=some ([],H')/\RfS X room H0 l 0 H'/\SinceK (λi=>i=X) H H':=by obtain⟨k,w,lv,hx,hc⟩:=h.x;have hxl:=(List.getElem?_eq_some_iff.1 hx).1;have hs1:∀b,(H.set X b)[X]?=some b:=λb=>List.getElem?_set_self hxl;refine⟨H.set X (.box [.p (.int .i64 (room:Int)),.p (.sl k 2 (filP l)),.p (.sl k 2 (filP l)),.p (.sl .nil 4 [])]),?_,⟨⟨k,_,_,hs1 _,.inl ⟨rfl,rfl⟩⟩,h.since.set (.inl ⟨rfl,_,hx⟩)⟩,(SinceK.refl H).set _ (by rfl)⟩;refine ah (fn:=pG) rfl rfl ?_;simp(disch:=first|exact Dq|fail)only[go_sem,pG,hx,hs1,List.set_set]
end
section


variable{X room:Nat}{H0 H:Heap}{l:Fl}{c:Nat}{s:List UInt8}
theorem r3_size(h:RfS X room H0 l c H)(h1:1<=s.length)(h2:s.length<=255){b:List UInt8}(hg:fget s l=some b)(hl:l.length<=1000):resW Γ 580 [.bx X 0,.p (.str s)] H=some ([.p (.int .i64 (b.length:Int)),.p (.int .i64 0)],H):=by obtain⟨kk,w,lv,hx,_⟩:=h.x;have e2:=rW s h1 h2;have e3:=jp (k:=kk) l (by omega) s;obtain⟨f1,f2⟩:=lO hg;have e:fixI s l=(fix s l:Int):=if_pos f1;rw[e]at e3;have hia:=jQ (H:=H) (k:=kk) f1;rw[f2]at hia;have hbl:=@aK b;refine ah (fn:=pi) rfl rfl ?_;simp(disch:=first|exact Dq|fail)only[go_sem,pi,e2,hx,e3,hia,hbl]
theorem r3_read(h:RfS X room H0 l c H)(h1:1<=s.length)(h2:s.length<=255){b:List UInt8}(hg:fget s l=some b)(hl:l.length<=1000)(hb:b.length<=100000):resW Γ 579 [.bx X 0,.p (.str s),.p (.int .i64 0),.p (.int .i64 (b.length:Int))] H=some ([.own H.length b.length,.p (.int .i64 0)],H++[.row false 1 (ao b)]):=by
 obtain⟨kk,w,lv,hx,_⟩:=h.x;have e2:=rW s h1 h2;have e3:=jp (k:=kk) l (by omega) s;obtain⟨f1,f2⟩:=lO hg;have e:fixI s l=(fix s l:Int):=if_pos f1;rw[e]at e3;have hia:=jQ (H:=H) (k:=kk) f1;rw[f2]at hia;have hbl:=@aK b;have hcut:gN 1 (.p (.sl .any 1 (ao b))) (some (.p (.int .i64 0))) (some (.p (.int .i64 (b.length:Int))))=some (.p (.sl .any 1 (ao b))):=by rw[Kt (by omega) (by omega) (by omega)];rw[show((b.length:Int)).toNat=b.length by omega,show(0:Int).toNat=0 by rfl,List.drop_zero,List.take_of_length_le (by omega)];rfl
 refine ah (fn:=kO) rfl rfl ?_;simp(disch:=first|exact Dq|fail)only[go_sem,kO,e2,hx,e3,hia,hbl,hcut,slf_p,ip]
theorem On{H:Heap}{xs:List PV}{n:Nat}(h:xs.length=n):tD (H++[.row false 1 xs]) (.own H.length n)=some (.p (.sl .any 1 xs),H++[.row true 1 xs]):=by rw[tree_own (f:=false) (sz:=1) (xs:=xs) (by simp) h];simp
end
def bi(l:List UInt8):List Int:=l.map λb=>(b.toNat:Int)
theorem bi_len{l:List UInt8}:(bi l).length=l.length:=by simp[bi]
theorem UK{l:List UInt8}:ints .u8 (bi l)=ao l:=by simp[ints,bi,ao]
def mix(s:List UInt8)(i:Nat):List UInt8:=(fK 46 47 s).take i++s.drop i
theorem iZ{a b:UInt8}{s:List UInt8}:(fK a b s).length=s.length:=by simp[fK]
theorem SF{s:List UInt8}{i:Nat}(h:i<=s.length):(mix s i).length=s.length:=by simp only[mix,List.length_append,List.length_take,List.length_drop,iZ];omega
theorem mix_get{s:List UInt8}{i:Nat}(h:i<s.length):(bi (mix s i)).getD i 0=((s.getD i 0).toNat:Int):=by
 have h1:((fK 46 47 s).take i).length=i:=by rw[List.length_take,iZ];omega
 simp only[bi,mix,List.getD_eq_getElem?_getD,List.getElem?_map];rw[List.getElem?_append_right (by omega),h1,Nat.sub_self,List.getElem?_drop,Nat.add_zero,List.getElem?_eq_getElem h];rfl
theorem Kd{s:List UInt8}{i:Nat}(h:i<s.length):mix s (i+1)=(mix s i).set i (if s.getD i 0=46 then 47 else s.getD i 0):=by
 have h1:((fK 46 47 s).take i).length=i:=by rw[List.length_take,iZ];omega
 have e1:(fK 46 47 s).take (i+1)=(fK 46 47 s).take i++[if s.getD i 0=46 then 47 else s.getD i 0]:=by rw[List.take_add_one];simp only[fK,List.getElem?_map,List.getElem?_eq_getElem h,Option.map_some,Option.toList,List.getD_eq_getElem?_getD,Option.getD_some]
 simp only[mix];rw[e1,List.set_append_right _ _ (by omega),h1,Nat.sub_self,List.drop_eq_getElem_cons h,List.set_cons_zero,List.append_assoc];rfl
theorem mix_keep{s:List UInt8}{i:Nat}(h:i<s.length)(hne:s.getD i 0≠46):mix s (i+1)=mix s i:=by
 rw[Kd h,if_neg hne];have h1:((fK 46 47 s).take i).length=i:=by rw[List.length_take,iZ];omega
 simp only[mix];rw[List.set_append_right _ _ (by omega),h1,Nat.sub_self,List.drop_eq_getElem_cons h,List.set_cons_zero,List.getD_eq_getElem?_getD,List.getElem?_eq_getElem h];rfl
theorem bi_set{l:List UInt8}{i:Nat}{b:UInt8}:(bi l).set i (b.toNat:Int)=bi (l.set i b):=by simp[bi,List.map_set]
theorem NU(s:List UInt8)(hs:s.length<=1000000)(Q:Out->Prop)(hQ:∀e,look e 7=.own 0 s.length->Q (.ex 0,e,[.row false 1 (ints .u8 (bi (fK 46 47 s)))])):∀(f i:Nat),i+f=s.length->Wp Γ iq [(1,.p (.int .u8 46)),(2,.p (.int .u8 47)),(7,.own 0 s.length),(8,.p (.int .i64 (i:Int)))] [.row false 1 (ints .u8 (bi (mix s i)))] Q:=by intro f;induction f with
 |zero=>
  intro i hi;have hi:i=s.length:=by omega
  subst hi;have e:mix s s.length=fK 46 47 s:=by simp[mix,List.take_of_length_le,iZ]
  have hl:(bi (mix s s.length)).length=s.length:=by rw[bi_len,SF (Nat.le_refl _)]
  rw[<-e]at hQ;rw[aa (L:=iq) rfl];simp(disch:=first|exact Dq|fail)only[go_sem,iq];exact hQ _ rfl|succ f ih=>
  intro i hi;have hlt:i<s.length:=by omega
  have hl:(bi (mix s i)).length=s.length:=by rw[bi_len,SF (by omega)]
  have hg:=mix_get hlt;have ih:=ih (i+1) (by omega);by_cases e:s.getD i 0=46
  ·have hd:decide ((bi (mix s i)).getD i 0=46)=true:=by rw[hg,e];rfl
   have hst:=Kd hlt;rw[if_pos e]at hst;rw[hst,<-bi_set]at ih;have e47:((47:UInt8).toNat:Int)=47:=rfl;rw[e47]at ih;rw[aa (L:=iq) rfl];simp(disch:=first|exact Dq|fail)only[go_sem,iq,hd];exact ih
  ·have hd:decide ((bi (mix s i)).getD i 0=46)=false:=by
    rw[hg];refine decide_eq_false λh=>e ?_;have h2:(s.getD i 0).toNat=46:=by omega
    exact UInt8.toNat_inj.1 (by rw[h2];rfl)
   rw[mix_keep hlt e]at ih;rw[aa (L:=iq) rfl];simp(disch:=first|exact Dq|fail)only[go_sem,iq,hd];exact ih
theorem res_turn(s:List UInt8)(hs:s.length<=1000000):res Γ 597 [.str s,.int .u8 46,.int .u8 47]=some [.str (fK 46 47 s)]:=by
 have e1:List.map (λb:UInt8=>PV.int IntKind.u8 (b.toNat:Int)) s=ints .u8 (bi (mix s 0)):=by rw[UK];simp[mix,ao]
 have hso:zw [.row false 1 (ints .u8 (bi (fK 46 47 s)))] (.own 0 s.length)=some (.p (.str (fK 46 47 s))):=by
  have h1:rowOf [.row false 1 (ints .u8 (bi (fK 46 47 s)))] 0 s.length=some (1,ao (fK 46 47 s)):=by rw[UK];simp only[rowOf,List.getElem?_cons_zero];rw[if_pos (by rw[aK,iZ])]
  simp only[zw,h1,Option.bind_some,if_true,tn,Option.map_some]
 have hlm:s.length<=lim:=by unfold lim;omega
 refine ae (fn:=DF) rfl rfl ?_;simp(disch:=first|exact Dq|fail)only[go_sem,DF,hlm,e1];refine NU s hs _ (λe he=>?_) s.length 0 (by omega);simp(disch:=first|exact Dq|fail)only[go_sem,he,hso]
theorem oZ(s:List UInt8)(hs:s.length<=1000):res Γ 582 [.str s]=some [.str (gr s)]:=by have h:=res_turn s (by omega);have hl:=@iZ 46 47 s;refine ae (fn:=CV) rfl rfl ?_;simp(disch:=first|exact Dq|fail)only[go_sem,CV,h];rfl
theorem lI:aw Γ 616=true:=rfl
theorem Mg:aw Γ 614=true:=rfl
theorem mY:aw Γ 579=true:=rfl
theorem Em:aw Γ 644=true:=rfl
theorem DP:aw Γ 608=true:=rfl
def fR(X:Nat)(s:List UInt8)(κ:Bool):List AV:=[.bx X 0,.p (.str s),.p (.int .i64 (agI κ)),.p (.int .i64 (xfI κ)),.p (arcP .any)]
section


variable{X room:Nat}{H0 H:Heap}{l:Fl}{c:Nat}{s:List UInt8}{xb:Nat}{κ:Bool}{B:List UInt8}
theorem RfS.keepE{H':Heap}(h:RfS X room H0 l c H)(hE:Ext0 H H'):RfS X room H0 l c H':=by obtain⟨k,w,lv,h1,h2⟩:=h.x;exact⟨⟨k,w,lv,hE.get h1,h2.keep (Since.ext (K:=λ_=>False) hE)⟩,h.since.trans (.ext hE)⟩
structure OpenR(X room:Nat)(H0:Heap)(s:List UInt8)(κ:Bool)(xb:Nat)(l:Fl)(B:List UInt8)(c:Nat)(H:Heap):Prop where
 fs:RfS X room H0 l c H
 x:H[xb]?=some (.box (fR X s κ))hB:B.length=1480
 get:fget s l=some B
 ne:xb≠X
 nm:1<=s.length/\s.length<=255
 ll:l.length<=900
theorem OpenR.keep(O:OpenR X room H0 s κ xb l B c H){H':Heap}(h:Ext0 H H'):OpenR X room H0 s κ xb l B c H':=⟨O.fs.keepE h,h.get O.x,O.hB,O.get,O.ne,O.nm,O.ll⟩
theorem Sp(h:RfS X room H0 l c H)(hs:1<=s.length/\s.length<=255){b:List UInt8}(hg:fget s l=some b)(hl:l.length<=1000)(hb:b.length<=100000){a n:Nat}(hn:0<n)(ha:a+n<=b.length){x y:Int}(hx:x=(a:Int))(hy:y=(n:Int)):resW Γ 579 [.bx X 0,.p (.str s),.p (.int .i64 x),.p (.int .i64 y)] H=some ([.own H.length n,.p (.int .i64 0)],H++[.row false 1 (ao ((b.drop a).take n))]):=by
 subst hx hy;obtain⟨kk,w,lv,hx,_⟩:=h.x;have e2:=rW s hs.1 hs.2;have e3:=jp (k:=kk) l (by omega) s;obtain⟨f1,f2⟩:=lO hg;have e:fixI s l=(fix s l:Int):=if_pos f1;rw[e]at e3;have hia:=jQ (H:=H) (k:=kk) f1;rw[f2]at hia;have hbl:=@aK b;have hcut:gN 1 (.p (.sl .any 1 (ao b))) (some (.p (.int .i64 (a:Int)))) (some (.p (.int .i64 ((a:Int)+(n:Int)))))=some (.p (.sl .any 1 (ao ((b.drop a).take n)))):=by rw[Kt (by omega) (by omega) (by omega),show((a:Int)+(n:Int)).toNat=a+n by omega,show((a:Int)).toNat=a by omega,tE,tH,List.drop_take,Nat.add_sub_cancel_left];rfl
 have hl2:(ao ((b.drop a).take n)).length=n:=by rw[aK,List.length_take,List.length_drop];omega
 refine ah (fn:=kO) rfl rfl ?_;simp(disch:=first|exact Dq|fail)only[go_sem,kO,e2,hx,e3,hia,hbl,hcut,slf_p,ip,hl2];done
theorem r7_at(hx:H[xb]?=some (.box (fR X s κ))){i:Bool}{t:Int}(h:0<=t/\t<=5000000000):resW Γ 616 [.bx xb 0,.p (.int .i64 (ixI i)),.p (.int .i64 t)] H=some ([.p (.int .i64 (posI i t))],H):=by
 have e0:=@El κ .any;have e1:=@Cf κ .any;have e2:=@Ii i t h;have b:0<=t/stp i%60/\t/stp i%60<60:=by omega
 unfold posI offI ixI;unfold fR arcP at hx;unfold hdrP arcP at e0 e1;generalize t/stp i%60=u at*;refine ah (fn:=mr) rfl rfl ?_;cases i;·simp only[stp,Bool.false_eq_true,if_false]at e2⊢;simp(disch:=first|exact Dq|fail)only[go_sem,mr,hx,e0,e2]
 ·simp only[stp,if_true]at e2⊢;simp(disch:=first|exact Dq|fail)only[go_sem,mr,hx,e1,e2]
end
section


variable{X room:Nat}{H0 H:Heap}{l:Fl}{c:Nat}{s:List UInt8}{xb:Nat}{κ:Bool}{B:List UInt8}
theorem LL(O:OpenR X room H0 s κ xb l B c H){i:Bool}{t:Int}(h:0<=t/\t<=5000000000):∃H',resW Γ 644 [.bx xb 0,.p (.int .i64 (ixI i)),.p (.int .i64 t)] H=some ([.p (.agg [.bool (hasS B i t).1,.int .i64 (hasS B i t).2])],H')/\Ext0 H H':=by
 have ab:=@gp i t h.1;have x1:Ext0 H (H++[.box [.p (.bool false),.p (.int .i64 0)]]):=.app _ _;have O1:=O.keep x1;have e1:=r7_at O1.x (i:=i) h;have pl:=@zO i t;have pc:=@wd i t h.1;have hB:=O.hB;have e2:=Sp O1.fs O.nm O.get (by have :=O.ll;omega) (by omega) (a:=pos i t) (n:=12) (by omega) (by omega) (x:=posI i t) (y:=12) pc.symm rfl;have sl:slo B i (al i t)=(B.drop (pos i t)).take 12:=by unfold slo;rw[Rp h.1]
 rw[<-sl]at e2;have hl2:(ao (slo B i (al i t))).length=12:=by rw[aK,Iw hB]
 have e3:=λk=>@Ez k _ (@Iw B i (al i t) hB);have e4:=@ig i t h;have ks:=Ee O1.x O1.x;have q1:=O1.x;have q2:∀G:Heap,(H++[Blk.box [.p (.bool false),.p (.int .i64 0)]]++G)[xb]?=some (.box (fR X s κ)):=λG=>(Ext0.app _ G).get O1.x;have q3:∀a b:Blk,(H++[Blk.box [.p (.bool false),.p (.int .i64 0)],a,b])[xb]?=some (.box (fR X s κ)):=λa b=>(Ext0.app _ _).get O.x;have q4:∀a:Blk,(H++[Blk.box [.p (.bool false),.p (.int .i64 0)],a])[xb]?=some (.box (fR X s κ)):=λa=>(Ext0.app _ _).get O.x;have xl:=(List.getElem?_eq_some_iff.1 O.x).1;unfold fR arcP at q1 q2 q3 q4;have key:=ci (Γ:=Γ) (f:=644) (fn:=dn) (args:=[.bx xb 0,.p (.int .i64 (ixI i)),.p (.int .i64 t)]) (H:=H) (K:=λrs H'=>rs=[.p (.agg [.bool (hasS B i t).1,.int .i64 (hasS B i t).2])]/\Ext0 H H') rfl rfl ?_;·obtain⟨rs,H',b1,rfl,b2⟩:=key;exact⟨H',b1,b2⟩
 have e0:∀G,Ext0 H (H++G):=λG=>.app _ _;unfold hasS;by_cases c:1<=al i t
 ·have d1:decide (al i t<=0)=false:=decide_eq_false (by omega);by_cases c2:ptT (slo B i (al i t))=al i t
  ·rw[if_pos ⟨c,c2⟩];have d2:decide (ptT (slo B i (al i t))≠al i t)=false:=decide_eq_false (by simp[c2]);cases i<;>simp only[ixI,stp,Bool.false_eq_true,if_true,if_false]at e1 e4⊢;·simp(disch:=first|exact Dq|fail)only[go_sem,dn,ba,af,cu,aB,List.length_append,Nat.zero_add,q1,q3,ks,lI,e1,mY,e2,e3,e4,d1,d2];exact e0 _
   ·simp(disch:=first|exact Dq|fail)only[go_sem,dn,ba,af,cu,aB,List.length_append,Nat.zero_add,q1,q3,ks,lI,e1,mY,e2,e3,e4,d1,d2];exact e0 _
  ·rw[if_neg (λh=>c2 h.2)];have d2:decide (ptT (slo B i (al i t))≠al i t)=true:=decide_eq_true c2;cases i<;>simp only[ixI,stp,Bool.false_eq_true,if_true,if_false]at e1 e4⊢;·simp(disch:=first|exact Dq|fail)only[go_sem,dn,ba,af,cu,aB,List.length_append,Nat.zero_add,q1,q3,ks,lI,e1,mY,e2,e3,e4,d1,d2];exact⟨rfl,e0 _⟩
   ·simp(disch:=first|exact Dq|fail)only[go_sem,dn,ba,af,cu,aB,List.length_append,Nat.zero_add,q1,q3,ks,lI,e1,mY,e2,e3,e4,d1,d2];exact⟨rfl,e0 _⟩
 ·rw[if_neg (λh=>c h.1)];have d1:decide (al i t<=0)=true:=decide_eq_true (by omega);cases i<;>simp only[ixI,stp,Bool.false_eq_true,if_true,if_false]at e1 e4⊢;·simp(disch:=first|exact Dq|fail)only[go_sem,dn,ba,af,cu,aB,List.length_append,Nat.zero_add,q1,q3,ks,lI,e1,mY,e2,e3,e4,d1];exact⟨rfl,e0 _⟩
  ·simp(disch:=first|exact Dq|fail)only[go_sem,dn,ba,af,cu,aB,List.length_append,Nat.zero_add,q1,q3,ks,lI,e1,mY,e2,e3,e4,d1];exact⟨rfl,e0 _⟩
theorem rstep(O:OpenR X room H0 s κ xb l B c H){k1:SK}(a:Nat)(d:List UInt8)(hd:a+d.length<=1480)(ha:a<1480)(hc:c<=1000){x:Int}(hx:x=(a:Int)):∃G,resW Γ 614 [.bx X 0,.p (.str s),.p (.int .i64 x),.p (.sl .tight 1 [.sl k1 1 (ao d)])] H=some ([.p (.int .i64 0)],G)/\OpenR X room H0 s κ xb (fput s (spl B a d) l) (spl B a d) (c+1) G/\SinceK (λi=>i=X) H G:=by subst hx;have hB:=O.hB;obtain⟨G,a1,R1,k1⟩:=r3_write O.fs O.nm.1 O.nm.2 O.get (by have :=O.ll;omega) (by omega) (k:=.tight) (k1:=k1) a d (by omega) (by omega) hc;exact⟨G,a1,⟨R1,k1.box xb _ O.x O.ne,by rw[Ae (by omega)];exact hB,nw,O.ne,O.nm,by rw[DD O.get,List.length_set];exact O.ll⟩,k1⟩
theorem Eb(O:OpenR X room H0 s κ xb l B c H){i:Bool}{t n:Int}(ht:0<=t/\t<=4294967295)(hc:c<=900):∃H',resW Γ 608 [.bx xb 0,.p (.int .i64 (ixI i)),.p (.int .i64 t),.p (.int .i64 n)] H=some ([],H')/\OpenR X room H0 s κ xb (fput s (wrS B i t n) l) (wrS B i t n) (c+3) H'/\SinceK (λi=>i=X) H H':=by
 have ab:=@gp i t ht.1;have e1:=r7_at O.x (i:=i) (t:=t) (by omega);have e2:=@Fx (al i t) n (by omega);have e4:=@ig i t (by omega);have pl:=@zO i t;have pc:=@wd i t ht.1;have hB:=O.hB;obtain⟨G1,a1,O1,k1⟩:=rstep O (k1:=.tight) (pos i t) z4 (by simp only[z4,List.length_cons,List.length_nil];omega) (by omega) (by omega) (x:=posI i t) pc.symm;obtain⟨G2,a2,O2,k2⟩:=rstep O1 (k1:=.any) (pos i t+4) (enV n) (by rw[Am];omega) (by omega) (by omega) (x:=posI i t+4) (by omega);obtain⟨G3,a3,O3,k3⟩:=rstep O2 (k1:=.any) (pos i t) (enT (al i t)) (by rw[xC];omega) (by omega) (by omega) (x:=posI i t) pc.symm;rw[iJ,iJ,Gy (z:=z4) rfl (Am n) (xC _) (by omega)]at O3;refine⟨G3,?_,O3,(k1.trans k2).trans k3⟩;have q0:=O.x;have q1:=O1.x;have q2:=O2.x;have pb:0<=posI i t/\posI i t<=1468:=by omega
 unfold fR arcP at q0 q1 q2;unfold z4 at*;refine ah (fn:=iC) rfl rfl ?_;cases i<;>simp only[ixI,stp,Bool.false_eq_true,if_true,if_false]at e1 e4⊢;·simp(disch:=first|exact Dq|fail)only[go_sem,iC,lI,e1,q0,e4,e2,Mg,a1,q1,a2,q2,a3]
 ·simp(disch:=first|exact Dq|fail)only[go_sem,iC,lI,e1,q0,e4,e2,Mg,a1,q1,a2,q2,a3]
end
section


variable{X room:Nat}{H0 H:Heap}{l:Fl}{c:Nat}{s:List UInt8}{xb:Nat}{κ:Bool}{B:List UInt8}
theorem pa_l1_ok(O:OpenR X room H0 s κ xb l B c H){A A2:Nat}(hA:H[A]?=some (.box [.p (.int .i64 1),.p (.int .i64 60)]))(hA2:H[A2]?=some (.box [.p (.int .i64 10),.p (.int .i64 60)])){t:Int}(ht:0<=t/\t<=4294967295)(Q:Out->Prop)(hQ:∀e H',look e 0=.bx xb 0->look e 1=.p (.int .i64 0)->look e 2=.p (.int .i64 t)->look e 9=.p (.int .i64 (al true t))->look e 10=.own H.length 10->H'[H.length]?=some (.row false 2 (vpv (gaL B t)))->Ext0 H H'->Q (.ex 0,e,H')):∀(f i:Nat)(H':Heap),i+f=10->Ext0 H H'->H'[H.length]?=some (.row false 2 (vpv ((gaL B t).take i)))->Wp Γ dv [(0,.bx xb 0),(1,.p (.int .i64 0)),(2,.p (.int .i64 t)),(7,.bx A 0),(8,.bx A2 0),(9,.p (.int .i64 (al true t))),(10,.own H.length i),(11,.p (.int .i64 (i:Int)))] H' Q:=by have ab:=@gp true t ht.1;have gl:=@Dj B t;intro f;induction f with
 |zero=>
  intro i H' hi hE hr;have hi:i=10:=by omega
  subst hi;rw[List.take_of_length_le (by omega)]at hr;have hA':=hE.get hA;have hA2':=hE.get hA2;rw[aa (L:=dv) rfl];simp(disch:=first|exact Dq|fail)only[go_sem,dv,hA',hA2',quo10];exact hQ _ _ rfl rfl rfl rfl rfl hr hE|succ f ih=>
  intro i H' hi hE hr;have hlt:i<10:=by omega
  have O1:=O.keep hE;obtain⟨H2,a1,a2⟩:=LL O1 (i:=false) (t:=al true t+(i:Nat)) (by omega);have r2:=a2.get hr;have hA':=hE.get hA;have hA2':=hE.get hA2;have rl:((gaL B t).take i).length=i:=by rw[List.length_take];omega
  have ht1:(gaL B t).take (i+1)=(gaL B t).take i++[((hasS B false (al true t+(i:Nat))).1,(hasS B false (al true t+(i:Nat))).2)]:=by rw[List.take_add_one];simp[gaL,hlt]
  have ih:=ih (i+1) (H2.set H.length (.row false 2 (vpv ((gaL B t).take (i+1))))) (by omega) ((hE.trans a2).setN (Nat.le_refl _)) (List.getElem?_set_self (List.getElem?_eq_some_iff.1 r2).1);rw[ht1]at ih;have i0:ixI false=0:=rfl;rw[i0]at a1;rw[aa (L:=dv) rfl];simp(disch:=first|exact Dq|fail)only[go_sem,dv,hA',hA2',quo10,Em,a1,r2,Int.mul_one];exact ih
theorem SN(O:OpenR X room H0 s κ xb l B c H){t:Int}(ht:0<=t/\t<=4294967295)(hc:c<=900):∃b H' c',resW Γ 607 [.bx xb 0,.p (.int .i64 0),.p (.int .i64 t)] H=some ([.p (.bool b)],H')/\OpenR X room H0 s κ xb (fput s (gaS κ B t) l) (gaS κ B t) c' H'/\c'<=c+3/\SinceK (λi=>i=X) H H':=by
 have ab:=@gp true t ht.1;have xl:=(List.getElem?_eq_some_iff.1 O.x).1;have x1:Ext0 H (H++[.box [.p (.int .i64 1),.p (.int .i64 60)],.box [.p (.int .i64 10),.p (.int .i64 60)]]):=.app _ _;obtain⟨H1,hH1⟩:∃H1,H++[Blk.box [.p (.int .i64 1),.p (.int .i64 60)],.box [.p (.int .i64 10),.p (.int .i64 60)]]=H1:=⟨_,rfl⟩;rw[hH1]at x1;have O1:=O.keep x1;have A1:H1[H.length+1]?=some (.box [.p (.int .i64 10),.p (.int .i64 60)]):=by rw[<-hH1,ba];rfl
 have A0:H1[H.length]?=some (.box [.p (.int .i64 1),.p (.int .i64 60)]):=by rw[<-hH1,af];rfl
 have e1:=@ig true t (by omega);have s10:stp true=10:=rfl;rw[s10]at e1;have gl:=@Dj B t;have key:=ci (Γ:=Γ) (f:=607) (fn:=jD) (args:=[.bx xb 0,.p (.int .i64 0),.p (.int .i64 t)]) (H:=H) (K:=λrs H'=>∃b c',rs=[.p (.bool b)]/\OpenR X room H0 s κ xb (fput s (gaS κ B t) l) (gaS κ B t) c' H'/\c'<=c+3/\SinceK (λi=>i=X) H H') rfl rfl ?_;·obtain⟨rs,H',a1,b,c',rfl,a2,a3,a4⟩:=key;exact⟨b,H',c',a1,a2,a3,a4⟩
 have dk:∀n,decide (xb<H.length+n)=true:=λn=>decide_eq_true (by omega);have ck:[H.length].contains xb=false:=by simp;omega
 have qx:=O.x;unfold fR arcP at qx;simp(disch:=first|exact Dq|fail)only[go_sem,jD,qx,ba,af,cu,aB,List.length_append,Nat.zero_add,ck,e1,hH1,A1];refine pa_l1_ok O1 A0 A1 ht _ (λe H2 z0 z1 z2 z9 z10 hr hE2=>?_) 10 0 (H1++[.row false 2 []]) rfl (Ext0.app _ _) (by simp[vpv,aggs]);have O2:=O1.keep hE2;have q2:=O2.x;unfold fR arcP at q2;have pt:=@Sf κ .any (gaL B t) gl;have rf:aI H2 4 (.own H1.length 10)=some (.sl .any 2 (vpv (gaL B t))):=by simp only[aI,rowOf,hr];rw[if_pos (by rw[kg,gl])];rfl
 have O3:=O2.keep (Ext0.app H2 [.box [.p (.bool (putV κ (gaL B t)).1),.p (.int .i64 (putV κ (gaL B t)).2)]]);have i1:ixI true=1:=rfl;have sk:∀G:Heap,SinceK (λi=>i=X) H (H2++G):=λG=>(Since.ext ((x1.trans hE2).trans (Ext0.app H2 G))).k;have no:¬((putV κ (gaL B t)).1=true/\1<=al true t)->fput s (gaS κ B t) l=l/\gaS κ B t=B:=λh=>by have e:gaS κ B t=B:=if_neg h;exact⟨by rw[e];exact lu O.get,e⟩
 cases hv:(putV κ (gaL B t)).1;·obtain⟨n1,n2⟩:=no (by simp[hv]);rw[hv]at O3;simp(disch:=first|exact Dq|fail)only[go_sem,z0,z1,z2,z9,z10,q2,rf,pt,hv,af,aB,Nat.zero_add];rw[n1,n2];exact⟨_,_,rfl,O3,by omega,sk _⟩
 ·rw[hv]at O3;by_cases h1:1<=al true t;·have d1:decide (al true t=0)=false:=decide_eq_false (by omega);obtain⟨H4,w1,w2,w3⟩:=Eb O3 (i:=true) (t:=t) (n:=(putV κ (gaL B t)).2) ht hc;have ge:gaS κ B t=wrS B true t (putV κ (gaL B t)).2:=if_pos ⟨hv,h1⟩;rw[i1]at w1;simp(disch:=first|exact Dq|fail)only[go_sem,z0,z1,z2,z9,z10,q2,rf,pt,hv,af,aB,Nat.zero_add,d1,DP,w1];rw[ge];exact⟨_,_,rfl,w2,by omega,(sk _).trans w3⟩
  ·have d1:decide (al true t=0)=true:=decide_eq_true (by omega);obtain⟨n1,n2⟩:=no (by simp[h1]);simp(disch:=first|exact Dq|fail)only[go_sem,z0,z1,z2,z9,z10,q2,rf,pt,hv,af,aB,Nat.zero_add,d1];rw[n1,n2];exact⟨_,_,rfl,O3,by omega,sk _⟩
end
theorem Mo:aw Γ 607=true:=rfl
theorem isV_of(n:Int):isV (true,n)=(ofV n).1:=by
 unfold isV ofV noV;by_cases h:-maxN<=n/\n<=maxN;·rw[if_pos h];simp[h.1,h.2]
 ·rw[if_neg h];simp only[if_true];exact decide_eq_false h
section


variable{X room:Nat}{H0 H:Heap}{l:Fl}{c:Nat}{s:List UInt8}{xb:Nat}{κ:Bool}{B:List UInt8}
def LaysQ(X room:Nat)(H0:Heap)(s:List UInt8)(κ:Bool)(xb:Nat)(l:Fl)(c:Nat)(H:Heap)(r:Bool×List UInt8)(rs:List AV)(H':Heap):Prop:=∃c',rs=[.p (.bool r.1)]/\OpenR X room H0 s κ xb (fput s r.2 l) r.2 c' H'/\c'<=c+6/\SinceK (λi=>i=X) H H'
theorem r7_lays(O:OpenR X room H0 s κ xb l B c H){a n now:Int}(hn:1<=now/\now<=4294967295)(hc:c<=800):∃rs H',resW Γ 595 [.bx xb 0,.p (.int .i64 now),.p (.agg [.int .i64 a,.int .i64 n])] H=some (rs,H')/\LaysQ X room H0 s κ xb l c H (layS κ now (a,n) B) rs H':=by
 have x1:Ext0 H (H++[.box [.p (.int .i64 a),.p (.int .i64 n)]]):=.app _ _;have no:∀H',Ext0 H H'->LaysQ X room H0 s κ xb l c H (false,B) [.p (.bool false)] H':=λH' h=>⟨c,rfl,by rw[lu O.get];exact O.keep h,by omega,(Since.ext h).k⟩;have v1:res Γ 120 [.agg [.bool true,.int .i64 n]]=some [.bool (ofV n).1]:=by rw[<-isV_of];exact res_r1Is true n
 refine ci (fn:=cT) rfl rfl ?_;unfold layS;by_cases h1:a<1;·rw[if_pos (.inl h1)];have d1:decide (a<1)=true:=decide_eq_true h1;simp(disch:=first|exact Dq|fail)only[go_sem,cT,af,Nat.zero_add,d1];exact no _ x1
 have d1:decide (a<1)=false:=decide_eq_false h1;by_cases h2:now<a;·rw[if_pos (.inr (.inl h2))];have d2:decide (now<a)=true:=decide_eq_true h2;simp(disch:=first|exact Dq|fail)only[go_sem,cT,af,Nat.zero_add,d1,d2];exact no _ x1
 have d2:decide (now<a)=false:=decide_eq_false h2;cases h3:(ofV n).1<;>rw[h3]at v1;·rw[if_pos (.inr (.inr rfl))];simp(disch:=first|exact Dq|fail)only[go_sem,cT,af,Nat.zero_add,d1,d2,v1];exact no _ x1
 rw[if_neg (by simp[h1,h2])];have x2:∀G,Ext0 H (H++G):=λG=>.app _ _;have hx:∀G:Heap,(H++G)[xb]?=some (.box (fR X s κ)):=λG=>(x2 G).get O.x;have xX:X<H.length:=by obtain⟨_,_,_,q,_⟩:=O.fs.x;exact(List.getElem?_eq_some_iff.1 q).1
 have hx':=hx;unfold fR arcP at hx';unfold fsI;have b0:∀(G:Heap)(i:Nat)b,G[i]?=some b->(H++G)[H.length+i]?=some b:=λG i b h=>by rw[ba];exact h
 have e0:=@ig false a (by omega);have e1:=@ig true a (by omega);have ab0:=@gp false a (by omega);have ab1:=@gp true a (by omega);simp only[stp,Bool.false_eq_true,if_true,if_false]at e0 e1;by_cases g0:now-a<60
 ·have c0:decide (60<=now-a)=false:=decide_eq_false (by omega);rw[if_pos g0];by_cases h4:al false a<1;·have d4:decide (al false a=0)=true:=decide_eq_true (by omega);simp only[h4,if_true];simp(disch:=first|exact Dq|fail)only[go_sem,cT,af,Nat.zero_add,d1,d2,v1];rw[aa (L:=av) rfl];simp(disch:=first|exact Dq|fail)only[go_sem,av,ba,af,cu,List.length_append,Nat.zero_add,hx',c0,e0,d4];exact no _ (x2 _)
  ·have d4:decide (al false a=0)=false:=decide_eq_false (by omega);simp only[h4,if_false,Bool.false_eq_true];have O2:=O.keep (x2 [.box [.p (.int .i64 a),.p (.int .i64 n)],.box [.p (.int .i64 1),.p (.int .i64 60)]]);obtain⟨H3,w1,w2,w3⟩:=Eb O2 (i:=false) (t:=a) (n:=n) (by omega) (by omega);have b3:H3[H.length]?=some (.box [.p (.int .i64 a),.p (.int .i64 n)]):=w3.box _ _ (by rw[af];rfl) (by omega);obtain⟨b,H4,c4,q1,q2,q3,q4⟩:=SN w2 (t:=a) (by omega) (by omega);rw[iJ]at q2;have y3:=w2.x;have y4:=q2.x;have k4:SinceK (λi=>i=X) H H4:=((Since.ext (x2 _)).k.trans w3).trans q4;have i0:ixI false=0:=rfl;rw[i0]at w1;unfold fR arcP at y3 y4;simp(disch:=first|exact Dq|fail)only[go_sem,cT,af,Nat.zero_add,d1,d2,v1];rw[aa (L:=av) rfl];simp(disch:=first|exact Dq|fail)only[go_sem,av,ba,af,cu,List.length_append,Nat.zero_add,hx',c0,e0,d4,DP,w1];rw[aa (L:=cA) rfl];cases b;·simp(disch:=first|exact Dq|fail)only[go_sem,cA,y3,b3,Mo,q1];exact⟨c4,rfl,q2,by omega,k4⟩
   ·simp(disch:=first|exact Dq|fail)only[go_sem,cA,y3,b3,Mo,q1];change Wp Γ cA _ _ _;rw[aa (L:=cA) rfl];simp(disch:=first|exact Dq|fail)only[go_sem,cA,y4];exact⟨c4,rfl,q2,by omega,k4⟩
 ·have c0:decide (60<=now-a)=true:=decide_eq_true (by omega);rw[if_neg g0];by_cases g1:now-a<600
  ·have c1:decide (600<=now-a)=false:=decide_eq_false (by omega);rw[if_pos g1];by_cases h4:al true a<1;·have d4:decide (al true a=0)=true:=decide_eq_true (by omega);simp only[h4,if_true];simp(disch:=first|exact Dq|fail)only[go_sem,cT,af,Nat.zero_add,d1,d2,v1];rw[aa (L:=av) rfl];simp(disch:=first|exact Dq|fail)only[go_sem,av,ba,af,cu,List.length_append,Nat.zero_add,hx',c0];change Wp Γ av _ _ _;rw[aa (L:=av) rfl];simp(disch:=first|exact Dq|fail)only[go_sem,av,ba,af,cu,List.length_append,Nat.zero_add,hx',c1,e1,d4];exact no _ (x2 _)
   ·have d4:decide (al true a=0)=false:=decide_eq_false (by omega);simp only[h4,if_false,if_true];have O2:=O.keep (x2 [.box [.p (.int .i64 a),.p (.int .i64 n)],.box [.p (.int .i64 1),.p (.int .i64 60)],.box [.p (.int .i64 10),.p (.int .i64 60)]]);obtain⟨H3,w1,w2,w3⟩:=Eb O2 (i:=true) (t:=a) (n:=n) (by omega) (by omega);have y3:=w2.x;have k3:SinceK (λi=>i=X) H H3:=(Since.ext (x2 _)).k.trans w3;have i1:ixI true=1:=rfl;rw[i1]at w1;unfold fR arcP at y3;simp(disch:=first|exact Dq|fail)only[go_sem,cT,af,Nat.zero_add,d1,d2,v1];rw[aa (L:=av) rfl];simp(disch:=first|exact Dq|fail)only[go_sem,av,ba,af,cu,List.length_append,Nat.zero_add,hx',c0];change Wp Γ av _ _ _;rw[aa (L:=av) rfl];simp(disch:=first|exact Dq|fail)only[go_sem,av,ba,af,cu,List.length_append,Nat.zero_add,hx',c1,e1,d4,DP,w1];rw[aa (L:=cA) rfl];simp(disch:=first|exact Dq|fail)only[go_sem,cA,y3];exact⟨c+3,rfl,w2,by omega,k3⟩
  ·have c1:decide (600<=now-a)=true:=decide_eq_true (by omega);rw[if_neg g1];simp(disch:=first|exact Dq|fail)only[go_sem,cT,af,Nat.zero_add,d1,d2,v1];rw[aa (L:=av) rfl];simp(disch:=first|exact Dq|fail)only[go_sem,av,ba,af,cu,List.length_append,Nat.zero_add,hx',c0];change Wp Γ av _ _ _;rw[aa (L:=av) rfl];simp(disch:=first|exact Dq|fail)only[go_sem,av,ba,af,cu,List.length_append,Nat.zero_add,hx',c1];change Wp Γ av _ _ _;rw[aa (L:=av) rfl];simp(disch:=first|exact Dq|fail)only[go_sem,av,Nat.zero_add,hx'];exact no _ (x2 _)
end
theorem LY:aw Γ 595=true:=rfl
theorem gh:aw Γ 596=true:=rfl
theorem Lw:aw Γ 591=true:=rfl
theorem still580:aw Γ 580=true:=rfl
section


variable{X room:Nat}{H0 H:Heap}{l:Fl}{c:Nat}{s:List UInt8}{xb:Nat}{κ:Bool}{B:List UInt8}
theorem wN(h:RfS X room H0 l c H)(hs:1<=s.length/\s.length<=255)(hB:IsF κ B)(hg:fget s l=some B)(hl:l.length<=1000):∃H',resW Γ 596 [.bx X 0,.p (.str s)] H=some ([.p (hdrP κ .any),.p (.int .i64 0)],H')/\Ext0 H H':=by have hlen:=hB.len;have h':=h.app [.box [.p (.int .i64 0),.p (.int .i64 0),.p (.sl .nil 2 [])]];have e0:=r3_size h' hs.1 hs.2 hg hl;have a1:=r3_read h' hs.1 hs.2 hg hl (by omega);rw[hlen]at e0 a1;have e748:((1480:Nat):Int)=1480:=rfl;rw[e748]at e0 a1;have e1:=λk=>@FV κ k _ hB.eq.2;simp only[<-hB.eq.1]at e1;have e2:=@Cd κ .any;have e3:=@aK B;rw[hlen]at e3;refine⟨_,ah (fn:=CE) rfl rfl ?_,Ext0.app H [.box [.p (.int .i64 (agI κ)),.p (.int .i64 (xfI κ)),.p (arcP .any)],.row true 1 (ao B),.box [.p (.int .i64 (agI κ)),.p (.int .i64 (xfI κ)),.p (arcP .any)]]⟩;unfold hdrP arcP at e1 e2;simp(disch:=first|exact Dq|fail)only[go_sem,CE,still580,mY,e0,a1,e1,e2,ba,af,cu,aB,List.length_append,Nat.zero_add,hdrP,arcP]
theorem Nk{k:SK}{now:Int}(hn:1<=now/\now<=4294967295)(ps:List (Int×Int))(hp:ps.length<=100)(Q:Out->Prop):∀(r:List (Int×Int))(i m c:Nat)(l:Fl)(B:List UInt8)(H:Heap),ps.drop i=r->i<=ps.length->m<=i->c<=6*i->OpenR X room H0 s κ xb l B c H->(∀e H' c',look e 0=.bx X 0->look e 13=.p (.int .i64 ((r.foldl (nC κ now) (m,B)).1:Nat))->OpenR X room H0 s κ xb (fput s (r.foldl (nC κ now) (m,B)).2 l) (r.foldl (nC κ now) (m,B)).2 c' H'->c'<=600->SinceK (λi=>i=X) H H'->Q (.ex 0,e,H'))->Wp Γ fu [(0,.bx X 0),(2,.p (.int .i64 now)),(3,.p (.sl k 2 (ptsP ps))),(12,.bx xb 0),(13,.p (.int .i64 (m:Int))),(14,.p (.int .i64 (i:Int)))] H Q:=by have lp:=@sZ ps;intro r;induction r with
 |nil=>
  intro i m c l B H hr hi hm hc O hQ;have hi:i=ps.length:=by have :=List.drop_eq_nil_iff.1 hr;omega
  subst hi;rw[aa (L:=fu) rfl];simp(disch:=first|exact Dq|fail)only[go_sem,fu,lp];exact hQ _ _ c rfl rfl (by rw[List.foldl_nil,lu O.get];exact O) (by omega) (Since.refl H).k|cons p r ih=>
  intro i m c l B H hr hi hm hc O hQ;obtain⟨a,n⟩:=p;have hlt:i<ps.length:=by refine Nat.lt_of_not_le λh=>?_;rw[List.drop_eq_nil_of_le h]at hr;cases hr
  have hg:(ptsP ps)[i]?=some (.agg [.int .i64 a,.int .i64 n]):=by
   have :ps[i]?=some (a,n):=by rw[<-List.head?_drop,hr];rfl
   simp[ptsP,this]
  have hr':ps.drop (i+1)=r:=by rw[<-List.tail_drop,hr];rfl
  obtain⟨rs,H2,a1,c2,rfl,O2,hc2,k2⟩:=r7_lays O (a:=a) (n:=n) hn (by omega);rw[List.foldl_cons]at hQ;have ia:iaddrA H 2 (.p (.sl k 2 (ptsP ps))) (.p (.int .i64 (i:Int)))=some (.p (.ptr [.int .i64 a,.int .i64 n])):=mP (i:=(i:Int)) (by omega) (by simpa using hg);cases e:(layS κ now (a,n) B).1
  ·have es:nC κ now (m,B) (a,n)=(m,(layS κ now (a,n) B).2):=by simp[nC,e]
   rw[es]at hQ;rw[e]at a1;have ih:=ih (i+1) m c2 _ _ H2 hr' hlt (by omega) (by omega) O2 (λe H' c' h1 h2 h3 h4 h5=>hQ e H' c' h1 h2 (by rw[iJ]at h3;exact h3) h4 (k2.trans h5));rw[aa (L:=fu) rfl];simp(disch:=first|exact Dq|fail)only[go_sem,fu,lp,ia,LY,a1];exact ih
  ·have es:nC κ now (m,B) (a,n)=(m+1,(layS κ now (a,n) B).2):=by simp[nC,e]
   rw[es]at hQ;rw[e]at a1;have ih:=ih (i+1) (m+1) c2 _ _ H2 hr' hlt (by omega) (by omega) O2 (λe H' c' h1 h2 h3 h4 h5=>hQ e H' c' h1 h2 (by rw[iJ]at h3;exact h3) h4 (k2.trans h5));rw[aa (L:=fu) rfl];simp(disch:=first|exact Dq|fail)only[go_sem,fu,lp,ia,LY,a1];exact ih
theorem HM(h:RfS X room H0 l c H)(hs:1<=s.length/\s.length<=255)(hB:IsF κ B)(hg:fget s l=some B)(hl:l.length<=1000){now:Int}(hn:¬(1<=now/\now<=4294967295)){v:PV}:∃H',resW Γ 583 [.bx X 0,.p (.str s),.p (.int .i64 now),.p v] H=some ([.p (.int .i64 0),.p (.int .i64 1)],H')/\Ext0 H H':=by
 obtain⟨H1,a1,a2⟩:=wN h hs hB hg hl;unfold hdrP at a1;refine⟨_,ah (fn:=kP) rfl rfl ?_,a2.trans (Ext0.app H1 [.box [.p (.int .i64 (agI κ)),.p (.int .i64 (xfI κ)),.p (arcP .any)]])⟩;by_cases h1:now<1;·simp(disch:=first|exact Dq|fail)only[go_sem,kP,gh,a1,af,aB,Nat.zero_add,decide_eq_true h1]
 ·simp(disch:=first|exact Dq|fail)only[go_sem,kP,gh,a1,af,aB,Nat.zero_add,decide_eq_false h1,decide_eq_true (show now>4294967295 by omega)]
theorem Rz{k:SK}(h:RfS X room H0 l 0 H)(hs:1<=s.length/\s.length<=255)(hB:IsF κ B)(hg:fget s l=some B)(hl:l.length<=900){now:Int}(hn:1<=now/\now<=4294967295)(ps:List (Int×Int))(hp:ps.length<=100):∃H',resW Γ 583 [.bx X 0,.p (.str s),.p (.int .i64 now),.p (.sl k 2 (ptsP ps))] H=some ([.p (.int .i64 ((updS κ now ps B).1:Nat)),.p (.int .i64 0)],H')/\RfS X room H0 (fput s (updS κ now ps B).2 l) 0 H'/\SinceK (λi=>i=X) H H':=by
 obtain⟨H1,a1,a2⟩:=wN h hs hB hg (by omega);have hX:X<H1.length:=by obtain⟨_,_,_,q,_⟩:=(h.keepE a2).x;exact(List.getElem?_eq_some_iff.1 q).1
 have x2:Ext0 H1 (H1++[.box [.p (.int .i64 (agI κ)),.p (.int .i64 (xfI κ)),.p (arcP .any)],.box (fR X s κ)]):=.app _ _;have O:OpenR X room H0 s κ (H1.length+1) l B 0 (H1++[.box [.p (.int .i64 (agI κ)),.p (.int .i64 (xfI κ)),.p (arcP .any)],.box (fR X s κ)]):=⟨(h.keepE a2).keepE x2,by rw[ba];rfl,hB.len,hg,by omega,hs,hl⟩;have d1:decide (now<1)=false:=decide_eq_false (by omega);have d2:decide (now>4294967295)=false:=decide_eq_false (by omega);have key:=ci (Γ:=Γ) (f:=583) (fn:=kP) (args:=[.bx X 0,.p (.str s),.p (.int .i64 now),.p (.sl k 2 (ptsP ps))]) (H:=H) (K:=λrs H'=>rs=[.p (.int .i64 ((updS κ now ps B).1:Nat)),.p (.int .i64 0)]/\RfS X room H0 (fput s (updS κ now ps B).2 l) 0 H'/\SinceK (λi=>i=X) H H') rfl rfl ?_;·obtain⟨rs,H',b1,rfl,b2,b3⟩:=key;exact⟨H',b1,b2,b3⟩
 have up:=Nk (s:=s) (κ:=κ) (xb:=H1.length+1) (X:=X) (room:=room) (H0:=H0) (k:=k) hn ps hp;unfold hdrP at a1;unfold fR arcP at O x2;unfold arcP at a1;simp(disch:=first|exact Dq|fail)only[go_sem,kP,gh,a1,af,aB,List.length_append,Nat.zero_add,d1,d2];refine up _ ps 0 0 0 l B _ rfl (by omega) (by omega) (by omega) O (λe H' c' z0 z13 O' hc' k'=>?_);obtain⟨H3,c1,c2,c3⟩:=UC O'.fs;simp(disch:=first|exact Dq|fail)only[go_sem,z0,z13,Lw,c1];exact⟨rfl,c2,((Since.ext (a2.trans x2)).k.trans k').trans c3⟩
end
theorem al_add{i:Bool}{t:Int}:al i (t+stp i)=al i t+stp i:=by unfold al uZ stp;cases i<;>simp<;>omega
theorem endR{now fr un:Int}(hn:1<=now/\now<=4294967295)(h:okF now fr un):al (iF now fr) (fF now fr)+stp (iF now fr)=stG now fr/\(stG now fr<al (iF now fr) (uF now un)+stp (iF now fr)/\al (iF now fr) (uF now un)+stp (iF now fr)=stG now fr+(nF now fr un:Nat)*stp (iF now fr)\/al (iF now fr) (uF now un)+stp (iF now fr)<=stG now fr/\stG now fr+stp (iF now fr)=stG now fr+(nF now fr un:Nat)*stp (iF now fr)):=by
 obtain⟨_,_,_,_,_,_,_,s2,s3,_⟩:=endF hn h;rw[al_add]at s2 s3;refine⟨s2,?_⟩;have e:stG now fr=aF (iF now fr) (fF now fr)*stp (iF now fr):=rfl;rw[al_mul]at s3⊢;rw[e]at s3⊢;generalize aF (iF now fr) (fF now fr)=A at*;generalize uF now un=u at*;generalize(nF now fr un:Nat)=n at*;clear s2 e;generalize iF now fr=i at*;cases i<;>simp only[stp,Bool.false_eq_true,if_true,if_false]at s3⊢;·split at s3<;>omega
 ·split at s3<;>omega
section


variable{X room:Nat}{H0 H:Heap}{l:Fl}{c:Nat}{s:List UInt8}{κ:Bool}{B:List UInt8}
theorem TT{K:Heap}{xb T Y:Nat}(O:OpenR X room H0 s κ xb l B c K){i:Bool}{st en:Int}{n:Nat}(hn:n<=100)(h0:1<=st)(he:en=st+(n:Nat)*stp i)(hm:en<=4294967400)(hX:K.length<=Y){nm:PV}(hnm:nm.one=true)(Q:Out->Prop)(hQ:∀e H' V,look e 10=.bx T 0->look e 18=.bx Y 0->H'[Y]?=some (.box [.p nm,.p (.int .i64 st),.p (.int .i64 (stp i)),V,.p (.int .i64 0)])->Ext0 K H'->VR K H' Y V ((List.range n).map λk=>hasS B i (st+(k:Nat)*stp i))->Q (.ex 2,e,H')):∀(f j:Nat)(H:Heap)(V:AV)(t:Int),t=st+(j:Nat)*stp i->j+f=n->Ext0 K H->H[Y]?=some (.box [.p nm,.p (.int .i64 st),.p (.int .i64 (stp i)),V,.p (.int .i64 0)])->VR K H Y V ((List.range j).map λk=>hasS B i (st+(k:Nat)*stp i))->Wp Γ gA [(10,.bx T 0),(15,.p (.int .i64 (ixI i))),(16,.bx xb 0),(17,.p (.int .i64 (stp i))),(18,.bx Y 0),(19,.p (.int .i64 en)),(20,.p (.int .i64 t))] H Q:=by intro f;induction f with
 |zero=>
  intro j H V t ht hj hE hb hV;subst ht;have hj:j=n:=by omega
  subst hj;have d:decide (st+(j:Nat)*stp i<en)=false:=decide_eq_false (by omega);rw[aa (L:=gA) rfl];simp(disch:=first|exact Dq|fail)only[go_sem,gA,d];exact hQ _ _ _ rfl rfl hb hE hV|succ f ih=>
  intro j H V t ht hj hE hb hV;subst ht;have hs:(j:Int)*stp i+stp i<=(n:Int)*stp i/\0<=(j:Int)*stp i/\1<=stp i/\stp i<=10:=by cases i<;>simp[stp]<;>omega
  have d:decide (st+(j:Nat)*stp i<en)=true:=decide_eq_true (by omega);obtain⟨H2,a1,a2⟩:=LL (O.keep hE) (i:=i) (t:=st+(j:Nat)*stp i) (by omega);have b2:=a2.get hb;have ks:=Ee hb b2;have c1:nm.cells=[nm]:=by cases nm<;>first|rfl|cases hnm
  have e1:st+(j:Nat)*stp i+stp i=st+((j+1:Nat):Int)*stp i:=by rw[show((j+1:Nat):Int)=(j:Int)+1 by omega,Int.add_mul];omega
  have ht1:(List.range (j+1)).map (λk=>hasS B i (st+(k:Nat)*stp i))=(List.range j).map (λk=>hasS B i (st+(k:Nat)*stp i))++[((hasS B i (st+(j:Nat)*stp i)).1,(hasS B i (st+(j:Nat)*stp i)).2)]:=by rw[List.range_succ,List.map_append];rfl
  have xl:=(List.getElem?_eq_some_iff.1 b2).1;have KL:=hE.1;have K2:=a2.1;rcases hV with⟨h1,rfl⟩|⟨R,rfl,h1,h2,h3,h4⟩
  ·have bg:∀G:Heap,(H2++G)[Y]?=some (.box [.p nm,.p (.int .i64 st),.p (.int .i64 (stp i)),.p (.sl .nil 2 []),.p (.int .i64 0)]):=λG=>(Ext0.app H2 G).get b2;have hj0:j=0:=by have :=congrArg List.length h1;simpa using this
   subst hj0;have ih:=ih (0+1) ((H2++[Blk.row false 2 [.agg [.bool (hasS B i (st+(0:Nat)*stp i)).1,.int .i64 (hasS B i (st+(0:Nat)*stp i)).2]]]).set Y (.box [.p nm,.p (.int .i64 st),.p (.int .i64 (stp i)),.own H2.length 1,.p (.int .i64 0)])) (.own H2.length 1) _ e1 (by omega) (((hE.trans a2).trans (.app _ _)).setN hX) (List.getElem?_set_self (by simp;omega)) (.inr ⟨H2.length,by simp,by simp,by omega,by omega,by rw[List.getElem?_set_ne (by omega),af];rfl⟩);rw[aa (L:=gA) rfl];simp(disch:=first|exact Dq|fail)only[go_sem,gA,d,hb,Em,a1,ks,bg,Nat.zero_add];exact ih
  ·have r2:=a2.get h4;have hl:((List.range j).map λk=>hasS B i (st+(k:Nat)*stp i)).length=j:=by simp
   have ih:=ih (j+1);rw[ht1]at ih;generalize(List.range j).map (λk=>hasS B i (st+(k:Nat)*stp i))=L at*;have rn:R≠Y:=h3;have x2:∀b,(H2.set R b)[Y]?=some (.box [.p nm,.p (.int .i64 st),.p (.int .i64 (stp i)),.own R L.length,.p (.int .i64 0)]):=λb=>by rw[List.getElem?_set_ne rn];exact b2
   have ih:=ih ((H2.set R (.row false 2 (vpv (L++[((hasS B i (st+(j:Nat)*stp i)).1,(hasS B i (st+(j:Nat)*stp i)).2)])))).set Y (.box [.p nm,.p (.int .i64 st),.p (.int .i64 (stp i)),.own R (L.length+1),.p (.int .i64 0)])) (.own R (L.length+1)) _ e1 (by omega) (((hE.trans a2).setN h2).setN hX) (List.getElem?_set_self (by simp;omega)) (.inr ⟨R,by simp,by simp,h2,h3,by rw[List.getElem?_set_ne (Ne.symm rn)];exact List.getElem?_set_self (List.getElem?_eq_some_iff.1 r2).1⟩);have hm1:L.length+1<=1073741824:=by omega
   rw[aa (L:=gA) rfl];simp(disch:=first|exact Dq|fail)only[go_sem,gA,d,hb,Em,a1,ks,r2,x2,Nat.zero_add];exact ih
end
section


variable{X room:Nat}{H0 H:Heap}{l:Fl}{c:Nat}{s:List UInt8}{κ:Bool}{B:List UInt8}
theorem MB(h:RfS X room H0 l c H)(hs:1<=s.length/\s.length<=255)(hB:IsF κ B)(hg:fget s l=some B)(hl:l.length<=900){now fr un:Int}(he:rgE now fr un≠0):∃H',resW Γ 642 [.bx X 0,.p (.str s),.p (.int .i64 now),.p (.int .i64 fr),.p (.int .i64 un)] H=some ([.p zSer,.p (.int .i64 (rgE now fr un))],H')/\Ext0 H H':=by
 have x1:Ext0 H (H++[.box [.p (.str []),.p (.int .i64 0),.p (.int .i64 0),.p (.sl .nil 2 []),.p (.int .i64 0)]]):=.app _ _;obtain⟨H1,a1,a2⟩:=wN (h.keepE x1) hs hB hg (by omega);have e2:=@Bs κ .any;have b0:=a2.get (i:=H.length) (b:=.box [.p (.str []),.p (.int .i64 0),.p (.int .i64 0),.p (.sl .nil 2 []),.p (.int .i64 0)]) (by rw[af];rfl);have b1:∀G:Heap,(H1++G)[H.length]?=some (.box [.p (.str []),.p (.int .i64 0),.p (.int .i64 0),.p (.sl .nil 2 []),.p (.int .i64 0)]):=λG=>(Ext0.app H1 G).get b0;have hss:∀G:Heap,(H1++G).set H.length (.box [.p (.str []),.p (.int .i64 0),.p (.int .i64 0),.p (.sl .nil 2 []),.p (.int .i64 0)])=H1++G:=λG=>CU (b1 G);unfold hdrP arcP at a1 e2;refine⟨H1++[.box [.p (.int .i64 (agI κ)),.p (.int .i64 (xfI κ)),.p (arcP .any)]],ah (fn:=gk) rfl rfl ?_,(x1.trans a2).trans (.app _ _)⟩;unfold rgE at he⊢;by_cases c0:now<1;·rw[if_neg (by omega)];simp(disch:=first|exact Dq|fail)only[go_sem,gk,gh,a1,af,aB,Nat.zero_add,b1,hss,decide_eq_true c0];exact⟨rfl,rfl⟩
 by_cases c1:now>4294967295;·rw[if_neg (by omega)];simp(disch:=first|exact Dq|fail)only[go_sem,gk,gh,a1,af,aB,Nat.zero_add,b1,hss,decide_eq_false c0,decide_eq_true c1];exact⟨rfl,rfl⟩
 have c2:1<=now/\now<=4294967295:=by omega
 rw[if_pos c2]at he⊢;have c3:¬(fr<=un/\fr<=now/\0<=un/\now-600<=un):=λh=>he (if_pos h);rw[if_neg c3];by_cases d1:un<fr;·simp(disch:=first|exact Dq|fail)only[go_sem,gk,gh,a1,af,aB,Nat.zero_add,b1,hss,e2,decide_eq_false c0,decide_eq_false c1,decide_eq_true d1];exact⟨rfl,rfl⟩
 by_cases d2:now<fr;·simp(disch:=first|exact Dq|fail)only[go_sem,gk,gh,a1,af,aB,Nat.zero_add,b1,hss,e2,decide_eq_false c0,decide_eq_false c1,decide_eq_false d1,decide_eq_true d2];exact⟨rfl,rfl⟩
 by_cases d3:un<0;·simp(disch:=first|exact Dq|fail)only[go_sem,gk,gh,a1,af,aB,Nat.zero_add,b1,hss,e2,decide_eq_false c0,decide_eq_false c1,decide_eq_false d1,decide_eq_false d2,decide_eq_true d3];exact⟨rfl,rfl⟩
 have d4:un<now-600:=by omega
 simp(disch:=first|exact Dq|fail)only[go_sem,gk,gh,a1,af,aB,Nat.zero_add,b1,hss,e2,decide_eq_false c0,decide_eq_false c1,decide_eq_false d1,decide_eq_false d2,decide_eq_false d3,decide_eq_true d4];exact⟨rfl,rfl⟩
theorem r7_fetch(h:RfS X room H0 l c H)(hs:1<=s.length/\s.length<=255)(hB:IsF κ B)(hg:fget s l=some B)(hl:l.length<=900){now fr un:Int}(hn:1<=now/\now<=4294967295)(hk:okF now fr un):∃H' R,resW Γ 642 [.bx X 0,.p (.str s),.p (.int .i64 now),.p (.int .i64 fr),.p (.int .i64 un)] H=some ([.agg [.p (.str s),.p (.int .i64 (stG now fr)),.p (.int .i64 (stp (iF now fr))),.own R (nF now fr un),.p (.int .i64 0)],.p (.int .i64 0)],H')/\Since (λ_=>False) H H'/\H'[R]?=some (.row false 2 (vpv (vlF B now fr un)))/\H.length<=R:=by
  have x1:Ext0 H (H++[.box [.p (.str []),.p (.int .i64 0),.p (.int .i64 0),.p (.sl .nil 2 []),.p (.int .i64 0)]]):=.app _ _;obtain⟨H1,a1,a2⟩:=wN (h.keepE x1) hs hB hg (by omega);have e2:=@Bs κ .any;have hX:X<H1.length:=by obtain⟨_,_,_,q,_⟩:=((h.keepE x1).keepE a2).x;exact(List.getElem?_eq_some_iff.1 q).1
  have b0:=a2.get (i:=H.length) (b:=.box [.p (.str []),.p (.int .i64 0),.p (.int .i64 0),.p (.sl .nil 2 []),.p (.int .i64 0)]) (by rw[af];rfl);have bl:=(List.getElem?_eq_some_iff.1 b0).1;obtain⟨H2,hH2⟩:∃H2,H1++[Blk.box [.p (.int .i64 (agI κ)),.p (.int .i64 (xfI κ)),.p (arcP .any)],.box (fR X s κ)]=H2:=⟨_,rfl⟩;have x2:Ext0 H1 H2:=by rw[<-hH2];exact .app _ _
  have O:OpenR X room H0 s κ (H1.length+1) l B c H2:=⟨((h.keepE x1).keepE a2).keepE x2,by rw[<-hH2,ba];rfl,hB.len,hg,by omega,hs,hl⟩;have l2:H2.length=H1.length+2:=by rw[<-hH2];simp
  obtain⟨f0,f1,u0,u1,n1,n2,s1,s2,s3,s4⟩:=endF hn hk;obtain⟨r1,r2⟩:=endR hn hk;obtain⟨k1,k2,k3,k4⟩:=hk;have c0:decide (now<1)=false:=decide_eq_false (by omega);have c1:decide (now>4294967295)=false:=decide_eq_false (by omega);have d1:decide (un<fr)=false:=decide_eq_false (by omega);have d2:decide (now<fr)=false:=decide_eq_false (by omega);have d3:decide (un<0)=false:=decide_eq_false (by omega);have d4:decide (un<now-600)=false:=decide_eq_false (by omega);have m3:minmax true [.p (.int .i64 0),.p (.int .i64 fr),.p (.int .i64 (now-600))]=some (.p (.int .i64 (fF now fr))):=rfl;have m2:minmax false [.p (.int .i64 un),.p (.int .i64 now)]=some (.p (.int .i64 (uF now un))):=rfl;have st10:1<=stp (iF now fr)/\stp (iF now fr)<=10:=by cases iF now fr<;>simp[stp]
  have g1:=@ig (iF now fr) (fF now fr) (by omega);have g2:=@ig (iF now fr) (uF now un) (by omega);have ab1:=@gp (iF now fr) (fF now fr) f0;have ab2:=@gp (iF now fr) (uF now un) u0;have key:=ci (Γ:=Γ) (f:=642) (fn:=gk) (args:=[.bx X 0,.p (.str s),.p (.int .i64 now),.p (.int .i64 fr),.p (.int .i64 un)]) (H:=H) (K:=λrs H'=>∃R,rs=[.agg [.p (.str s),.p (.int .i64 (stG now fr)),.p (.int .i64 (stp (iF now fr))),.own R (nF now fr un),.p (.int .i64 0)],.p (.int .i64 0)]/\Since (λ_=>False) H H'/\H'[R]?=some (.row false 2 (vpv (vlF B now fr un)))/\H.length<=R) rfl rfl ?_;·obtain⟨rs,H',b1,R,rfl,b2,b3,b4⟩:=key;exact⟨H',R,b1,b2,b3,b4⟩
  have hi:iF now fr=decide (60<now-fF now fr):=rfl;have fin:∀e H' V,look e 10=.bx H.length 0->look e 18=.bx H2.length 0->H'[H2.length]?=some (.box [.p (.str s),.p (.int .i64 (stG now fr)),.p (.int .i64 (stp (iF now fr))),V,.p (.int .i64 0)])->Ext0 H2 H'->VR H2 H' H2.length V (vlF B now fr un)->Wp Γ (.seq (.ops [10,11] [⟨some 136,none,.inl (.load 5 true (.v 18))⟩,⟨none,none,.inr (.store 5 (.v 10) (.v 136))⟩,⟨some 11,none,.inl (.mov (.c (.int .i64 0)))⟩]) .ret) e H' (CH [.cell 10 5 true,.slot 11] (λrs H'=>∃R,rs=[.agg [.p (.str s),.p (.int .i64 (stG now fr)),.p (.int .i64 (stp (iF now fr))),.own R (nF now fr un),.p (.int .i64 0)],.p (.int .i64 0)]/\Since (λ_=>False) H H'/\H'[R]?=some (.row false 2 (vpv (vlF B now fr un)))/\H.length<=R)):=by
    intro e H' V z10 z18 hb hE hV;have nl:=@ug B now fr un;have hb1:=hE.get (x2.get b0);rcases hV with⟨h1,_⟩|⟨R,rfl,v1,v2,v3,v4⟩;·rw[h1]at nl;simp only[List.length_nil]at nl;omega
    · rw[nl]at*;have hl:H.length<H'.length:=by have :=hE.1;omega
      have hE2:Since (λ_=>False) H (H'.set H.length (.box [.p (.str s),.p (.int .i64 (stG now fr)),.p (.int .i64 (stp (iF now fr))),.own R (nF now fr un),.p (.int .i64 0)])):=(Since.ext (((x1.trans a2).trans x2).trans hE)).set (.inr (Nat.le_refl _));have v5:(H'.set H.length (.box [.p (.str s),.p (.int .i64 (stG now fr)),.p (.int .i64 (stp (iF now fr))),.own R (nF now fr un),.p (.int .i64 0)]))[R]?=some (.row false 2 (vpv (vlF B now fr un))):=by rw[List.getElem?_set_ne (by omega)];exact v4
      have v6:∀b,(H'.set H.length b)[H.length]?=some b:=λb=>List.getElem?_set_self hl;simp(disch:=first|exact Dq|fail)only[go_sem,z10,z18,hb,hb1,v6];exact⟨R,rfl,hE2,v5,by omega⟩
  have X0:∀b,(H2++[b])[H2.length]?=some b:=λb=>by rw[af];rfl
  have b1:∀G:Heap,(H1++G)[H.length]?=some (.box [.p (.str []),.p (.int .i64 0),.p (.int .i64 0),.p (.sl .nil 2 []),.p (.int .i64 0)]):=λG=>(Ext0.app H1 G).get b0;have G1:∀G:Heap,(H2++G)[H1.length]?=some (.box [.p (.int .i64 (agI κ)),.p (.int .i64 (xfI κ)),.p (arcP .any)]):=λG=>(Ext0.app H2 G).get (by rw[<-hH2,af];rfl);have G1':H2[H1.length]?=some (.box [.p (.int .i64 (agI κ)),.p (.int .i64 (xfI κ)),.p (arcP .any)]):=by rw[<-hH2,af];rfl
  unfold hdrP at a1 e2;unfold fR arcP at hH2;unfold arcP at a1 e2 G1 G1';have fe:=TT (T:=H.length) (Y:=H2.length) O (i:=iF now fr) (st:=stG now fr) (en:=stG now fr+(nF now fr un:Nat)*stp (iF now fr)) (n:=nF now fr un) (by omega) s1 rfl s4 (Nat.le_refl _) (nm:=.str s) rfl;cases hii:iF now fr
  · have ff:=fin;rw[hii]at ff hi g1 g2 r1 r2 fe ab1 ab2;have ee:=fe
    have dd : decide (600 < now - fF now fr) = false := decide_eq_false (by have :fF now fr>=now-600:=by unfold fF;split<;>omega
                                                                            omega);simp only[stp,ixI,Bool.false_eq_true,if_false]at g1 g2 r1 r2 ee;rcases r2 with⟨q1,q2⟩|⟨q1,q2⟩;·have dE:decide (stG now fr+(nF now fr un:Nat)*1<=stG now fr)=false:=decide_eq_false (by omega);simp(disch:=first|exact Dq|fail)only[go_sem,gk,gh,a1,af,aB,Nat.zero_add,e2,c0,c1,d1,d2,d3,d4,m3,m2];rw[aa (L:=ce) rfl];simp(disch:=first|exact Dq|fail)only[go_sem,ce,af,aB,List.length_append,Nat.zero_add,<-hi,hH2,G1',g1,g2,r1,q2,dE];refine ee _ (λe H' V z10 z18 hb hE hV=>?_) (nF now fr un) 0 _ _ (stG now fr) (by simp) (by omega) (Ext0.app _ _) (X0 _) (.inl ⟨rfl,rfl⟩);have f2:=ff [(10,.bx H.length 0),(18,.bx H2.length 0)] _ _ rfl rfl hb hE (by simp only[vlF,hii];exact hV);simp(disch:=first|exact Dq|fail)only[go_sem,z10,z18]at f2⊢;exact f2
    ·have dE:decide (al false (uF now un)+1<=stG now fr)=true:=decide_eq_true (by omega);simp(disch:=first|exact Dq|fail)only[go_sem,gk,gh,a1,af,aB,Nat.zero_add,e2,c0,c1,d1,d2,d3,d4,m3,m2];rw[aa (L:=ce) rfl];simp(disch:=first|exact Dq|fail)only[go_sem,ce,af,aB,List.length_append,Nat.zero_add,<-hi,hH2,G1',g1,g2,r1,q2,dE];refine ee _ (λe H' V z10 z18 hb hE hV=>?_) (nF now fr un) 0 _ _ (stG now fr) (by simp) (by omega) (Ext0.app _ _) (X0 _) (.inl ⟨rfl,rfl⟩);have f2:=ff [(10,.bx H.length 0),(18,.bx H2.length 0)] _ _ rfl rfl hb hE (by simp only[vlF,hii];exact hV);simp(disch:=first|exact Dq|fail)only[go_sem,z10,z18]at f2⊢;exact f2
  · have ff:=fin;rw[hii]at ff hi g1 g2 r1 r2 fe ab1 ab2;have ee:=fe
    have dd : decide (600 < now - fF now fr) = false := decide_eq_false (by have :fF now fr>=now-600:=by unfold fF;split<;>omega
                                                                            omega);simp only[stp,ixI,if_true]at g1 g2 r1 r2 ee;rcases r2 with⟨q1,q2⟩|⟨q1,q2⟩;·have dE:decide (stG now fr+(nF now fr un:Nat)*10<=stG now fr)=false:=decide_eq_false (by omega);simp(disch:=first|exact Dq|fail)only[go_sem,gk,gh,a1,af,aB,Nat.zero_add,e2,c0,c1,d1,d2,d3,d4,m3,m2];rw[aa (L:=ce) rfl];simp(disch:=first|exact Dq|fail)only[go_sem,ce,af,Nat.zero_add,<-hi];change Wp Γ ce _ _ _;rw[aa (L:=ce) rfl];simp(disch:=first|exact Dq|fail)only[go_sem,ce,af,aB,List.length_append,Nat.zero_add,dd,hH2,G1',g1,g2,r1,q2,dE];refine ee _ (λe H' V z10 z18 hb hE hV=>?_) (nF now fr un) 0 _ _ (stG now fr) (by simp) (by omega) (Ext0.app _ _) (X0 _) (.inl ⟨rfl,rfl⟩);have f2:=ff [(10,.bx H.length 0),(18,.bx H2.length 0)] _ _ rfl rfl hb hE (by simp only[vlF,hii];exact hV);simp(disch:=first|exact Dq|fail)only[go_sem,z10,z18]at f2⊢;exact f2
    ·have dE:decide (al true (uF now un)+10<=stG now fr)=true:=decide_eq_true (by omega);simp(disch:=first|exact Dq|fail)only[go_sem,gk,gh,a1,af,aB,Nat.zero_add,e2,c0,c1,d1,d2,d3,d4,m3,m2];rw[aa (L:=ce) rfl];simp(disch:=first|exact Dq|fail)only[go_sem,ce,af,Nat.zero_add,<-hi];change Wp Γ ce _ _ _;rw[aa (L:=ce) rfl];simp(disch:=first|exact Dq|fail)only[go_sem,ce,af,aB,List.length_append,Nat.zero_add,dd,hH2,G1',g1,g2,r1,q2,dE];refine ee _ (λe H' V z10 z18 hb hE hV=>?_) (nF now fr un) 0 _ _ (stG now fr) (by simp) (by omega) (Ext0.app _ _) (X0 _) (.inl ⟨rfl,rfl⟩);have f2:=ff [(10,.bx H.length 0),(18,.bx H2.length 0)] _ _ rfl rfl hb hE (by simp only[vlF,hii];exact hV);simp(disch:=first|exact Dq|fail)only[go_sem,z10,z18]at f2⊢;exact f2
end
section


variable{X room:Nat}{H0 H:Heap}{l:Fl}{c:Nat}{s:List UInt8}{κ:Bool}
theorem RfS.set{i:Nat}(h:RfS X room H0 l 0 H){f:Bool}{sz:Nat}{xs:List PV}(hi:H[i]?=some (.row f sz xs))(hl:H0.length<=i)(b:Blk):RfS X room H0 l 0 (H.set i b):=by
 obtain⟨k,w,lv,h1,h2⟩:=h.x;refine⟨⟨k,w,lv,?_,?_⟩,h.since.set (.inr hl)⟩;·rw[List.getElem?_set_ne (λe=>by rw[e,h1]at hi;cases hi)];exact h1
 ·rcases h2 with⟨_,h2⟩|⟨id,xs,_,_,_,q1,q2⟩;·exact .inl ⟨rfl,h2⟩
  ·omega
def rowC(f:Bool):Blk:=.row f 2 [.agg [.int .i64 1,.int .i64 60],.agg [.int .i64 10,.int .i64 60]]
def hdrT(κ:Bool)(k:Nat):AV:=.agg [.p (.int .i64 (agI κ)),.p (.int .i64 (xfI κ)),.own k 2]
theorem still593:aw Γ 593=true:=rfl
theorem UT(h:RfS X room H0 l 0 H)(h1:1<=s.length)(h2:s.length<=255)(hg:fget s l=none)(hl:l.length<=900){k:Nat}(hk:H[k]?=some (rowC false))(hk0:H0.length<=k)(hr:room<=1000000)(hu:used l+1480<=room):∃H',resW Γ 584 [.bx X 0,.p (.str s),hdrT κ k] H=some ([.p (.int .i64 0)],H')/\RfS X room H0 (fput s (newF κ) l) 0 H'/\SinceK (λi=>i=X) H H':=by
 have e1:=@Fe κ .any;have e2:=@Cd κ .any;have e28:((40:Nat):Int)=40:=rfl;have hlk:=(List.getElem?_eq_some_iff.1 hk).1;have hbl:(ao (hdrB κ)).length=40:=rfl;have hk1:∀G:Heap,(H++G)[k]?=some (.row false 2 [.agg [.int .i64 1,.int .i64 60],.agg [.int .i64 10,.int .i64 60]]):=λG=>by rw[List.getElem?_append_left hlk];exact hk
 obtain⟨G,hG⟩:∃G,(H++[Blk.box [.p (.int .i64 (agI κ)),.p (.int .i64 (xfI κ)),.own k 2]]).set k (.row true 2 [.agg [.int .i64 1,.int .i64 60],.agg [.int .i64 10,.int .i64 60]])=G:=⟨_,rfl⟩;have g1:G[H.length]?=some (.box [.p (.int .i64 (agI κ)),.p (.int .i64 (xfI κ)),.own k 2]):=by rw[<-hG,List.getElem?_set_ne (by omega)];simp
 have g2:G[k]?=some (.row true 2 [.agg [.int .i64 1,.int .i64 60],.agg [.int .i64 10,.int .i64 60]]):=by rw[<-hG];exact List.getElem?_set_self (by simp;omega)
 have RG:RfS X room H0 l 0 G:=by rw[<-hG];exact(h.app _).set (hk1 _) hk0 _
 have kG:SinceK (λi=>i=X) H G:=by rw[<-hG];exact((SinceK.refl H).app _).row (hk1 _) _
 obtain⟨H1,a1,a2,a3⟩:=QJ RG h1 h2 hg (by omega) (k:=.tight) (k1:=.any) (k2:=.any) (hdrB κ) (List.replicate 1440 0) (by rw[pQ];decide) (by rw[List.length_replicate];decide) (by omega) (by omega) (by rw[List.length_replicate,pQ];omega);obtain⟨H2,b1,b2,b3⟩:=UC a2;have ez:ao (List.replicate 1440 0)=ints .u8 (List.replicate 1440 0):=by simp only[ao,ints,List.map_replicate];rfl
 rw[ez]at a1;unfold hdrP arcP at e1 e2;refine⟨H2,?_,b2,(kG.trans a3).trans b3⟩;refine ah (fn:=rC) rfl rfl ?_;simp(disch:=first|exact Dq|fail)only[go_sem,rC,hdrT,e1,e2,dB,hbl,e28,hk1,hG,g1,g2,still593,Lw,a1,b1,Tr]
end
theorem NZ{ρ:Bool}(c:Nat)(hc:c<256):res Γ 342 [.str (setB ρ),.int .u8 (c:Int)]=some [.bool (inB ρ c)]:=wg (a:=λc=>[.str (setB ρ),.int .u8 (c:Int)]) (r:=λc=>[.bool (inB ρ c)]) 100 256 (by cases ρ<;>kernel_rfl) c hc
theorem res_309{ρ:Bool}:res Γ 309 [.str (if ρ then[98]else[46])]=some [.agg [.int .i64 0,jg ρ],.int .i64 0]:=dA 400 (by cases ρ<;>kernel_rfl)
theorem Dz{f:Bool}{a b c:PV}:Aq (some (.row f 3 [.agg [a,b,c]])) 3 true 1 0 0=some (.p (.agg [a,b,c])):=rfl
theorem pop_3{H:Heap}{i:Nat}{v:PV}(h:H[i]?=some (.row false 3 [v])):popA H 3 (.own i 1) (.p (.int .i64 0))=some (.own H.length 0,H.set i .dead++[.row false 3 []]):=by simp only[popA,h];rfl
theorem Oe{S:List Bool}{i j:Nat}(h:i≠j):(S.set i true).getD j false=S.getD j false:=by simp[List.getD,h]
theorem seen0{n j:Nat}:(List.replicate n false).getD j false=false:=by simp only[List.getD,List.getElem?_replicate];split<;>rfl
theorem stK0{H:Heap}{i:Nat}{a c w:Int}:rE H (some (.row false 1 [.int .i64 a,.int .i64 c])) 1 i 2 0 0 (.p (.int .i64 w))=some (H.set i (.row false 1 [.int .i64 w,.int .i64 c])):=rfl
theorem stK1{H:Heap}{i:Nat}{a c w:Int}:rE H (some (.row false 1 [.int .i64 a,.int .i64 c])) 1 i 2 1 0 (.p (.int .i64 w))=some (H.set i (.row false 1 [.int .i64 a,.int .i64 w])):=rfl
def bxP(ρ:Bool):Blk:=.box [.p (.int .i64 0),.p (jg ρ)]
end Ab
