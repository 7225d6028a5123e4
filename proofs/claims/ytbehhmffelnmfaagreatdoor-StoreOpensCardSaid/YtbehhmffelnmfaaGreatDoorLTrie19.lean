import Derived.Test.YtbehhmffelnmfaaGreatDoorLGlob10
set_option linter.all false
namespace Ab
abbrev eEnv(s:List UInt8)(n fr:Nat)(D:List (List UInt8))(i:Nat):Env:=[(0,.p (.str s)),(6,.p (.int .i64 (n:Int))),(7,.p (.int .i64 (fr:Int))),(8,.own 0 D.length),(9,.p (.int .i64 (i:Int)))]
section


variable{s:List UInt8}(hs:s.length<=900000){Q:Out->Prop}{n fr i:Nat}{D:List (List UInt8)}
include hs
theorem ends_lit(hi:i<s.length)(b:fD (s.getD i 0)=false)(h:Wp Γ bn (eEnv s n fr D (i+1)) [.row false 1 (strs D)] (aW [0,8] 0 Q)):Wp Γ bn (eEnv s n fr D i) [.row false 1 (strs D)] (aW [0,8] 0 Q):=by simp[fD,]at b;have n1:byt s i≠123:=λh=>b.1.1 ((aR 123).1 h);have e:byt s i≠125:=λh=>b.1.2 ((aR 125).1 h);have d:byt s i≠44:=λh=>b.2 ((aR 44).1 h);rw[aa (L:=bn) rfl];simp(disch:=first|exact Dq|fail)only[go_sem];grind
theorem Ge(hi:i<s.length)(a:byt s i=123)(c:n<=900001)(h:Wp Γ bn (eEnv s (n+1) fr D (i+1)) [.row false 1 (strs D)] (aW [0,8] 0 Q)):Wp Γ bn (eEnv s n fr D i) [.row false 1 (strs D)] (aW [0,8] 0 Q):=by rw[aa (L:=bn) rfl];simp(disch:=first|exact Dq|fail)only[go_sem,a];grind
theorem NC(hi:i<s.length)(a:byt s i=125)(d:n<=900001)(h:Wp Γ bn (eEnv s (n+1) fr D (i+1)) [.row false 1 (strs D)] (aW [0,8] 0 Q))(c:1<=n):Wp Γ bn (eEnv s (n+2) fr D i) [.row false 1 (strs D)] (aW [0,8] 0 Q):=by
 have e:((n+2:Nat):Int)-1=((n+1:Nat):Int):=by omega
 rw[aa (L:=bn) rfl];simp(disch:=first|exact Dq|fail)only[go_sem,a,e];grind
theorem Nw(hi:i<s.length)(a:byt s i=44)(d:n<=900001)(c:2<=n)(h:Wp Γ bn (eEnv s n fr D (i+1)) [.row false 1 (strs D)] (aW [0,8] 0 Q)):Wp Γ bn (eEnv s n fr D i) [.row false 1 (strs D)] (aW [0,8] 0 Q):=by rw[aa (L:=bn) rfl];simp(disch:=first|exact Dq|fail)only[go_sem,a];grind
theorem Mn{p a:List UInt8}(j:∀c∈p,fD c=false):∀{i:Nat},s.drop i=p++a->Wp Γ bn (eEnv s n fr D (i+p.length)) [.row false 1 (strs D)] (aW [0,8] 0 Q)->Wp Γ bn (eEnv s n fr D i) [.row false 1 (strs D)] (aW [0,8] 0 Q):=by induction p with|nil=>simp|cons c p d=>intro i b h;let⟨g,l,f⟩:=fj b;refine ends_lit hs g (by grind) ?_;refine d (λx k=>j x (by grind)) f ?_;grind
def DE(s:List UInt8)(a:List UInt8):Prop:=∀(Q:Out->Prop)(n fr i:Nat)(D:List (List UInt8))(rest:List UInt8),s.drop i=a++rest->1<=n->n<=i->Wp Γ bn (eEnv s n fr D (i+a.length)) [.row false 1 (strs D)] (aW [0,8] 0 Q)->Wp Γ bn (eEnv s n fr D i) [.row false 1 (strs D)] (aW [0,8] 0 Q)
theorem Tn(o:2<=n){b:List UInt8}:∀{alts:List (List UInt8)},alts≠[]->(∀a∈alts,DE s a)->∀{i:Nat},n<=i->s.drop i=bv alts++b->Wp Γ bn (eEnv s n fr D (i+(bv alts).length)) [.row false 1 (strs D)] (aW [0,8] 0 Q)->Wp Γ bn (eEnv s n fr D i) [.row false 1 (strs D)] (aW [0,8] 0 Q):=by intro alts;induction alts with|nil=>simp|cons a c m=>
  intro _ f i k d h;by_cases g:c=[];·subst g;exact f a (by simp) Q n fr i D b d (by omega) k h
  ·rw[jt g]at d h;rw[List.append_assoc]at d;have e:s.drop (i+a.length)=44::(bv c++b):=by rw[<-List.drop_drop,d,List.drop_left];rfl
   let⟨k1,k2,l⟩:=fj e;refine f a (by simp) Q n fr i D _ d (by omega) k ?_;refine Nw hs k1 ((aR 44).2 k2) (by omega) o ?_;refine m g (λx r=>f x (by grind)) (by omega) l ?_;rw[List.length_append,List.length_cons]at h;grind
theorem Sl{a:List UInt8}{l:List (List UInt8)}(h:Exp a l):DE s a:=by induction h with|run p k=>exactλQ n j i D b d _ _ h=>Mn hs k d h|grp p alts f u l k y C E x c=>
  intro Q n j i D b d F A h;rw[List.append_assoc]at d;refine Mn hs k d ?_;have g:s.drop (i+p.length)=123::(bv alts++(125::(u++b))):=by rw[<-List.drop_drop,d,List.drop_left];simp
  let⟨k1,k2,r⟩:=fj g;refine Ge hs k1 ((aR 123).2 k2) (by omega) ?_;refine Tn hs (by omega) y x (by omega) r ?_;have o:s.drop (i+p.length+1+(bv alts).length)=125::(u++b):=by rw[<-List.drop_drop,r,List.drop_left]
  let⟨v,q,t⟩:=fj o;obtain⟨m,rfl⟩:∃m,n=m+1:=⟨n-1,by omega⟩;by_cases w:m=0
  ·subst w;have B:=(aR (s:=s) (i:=i+p.length+1+(bv alts).length) 125).2 q;rw[aa (L:=bn) rfl];simp(disch:=first|exact Dq|fail)only[go_sem,B];refine c Q 1 j (i+p.length+1+(bv alts).length+1) D b t (by omega) (by omega) ?_;have z:i+p.length+1+(bv alts).length+1+u.length=i+(p++123::(bv alts++125::u)).length:=by grind
   simp_all
  ·refine NC (n:=m) hs v ((aR 125).2 q) (by omega) ?_ (by omega);refine c Q (m+1) j (i+p.length+1+(bv alts).length+1) D b t (by omega) (by omega) ?_;have z:i+p.length+1+(bv alts).length+1+u.length=i+(p++123::(bv alts++125::u)).length:=by grind
   simp_all
theorem ends_top{b:List UInt8}:∀{alts:List (List UInt8)},alts≠[]->(∀a∈alts,DE s a)->∀{i:Nat}{D:List (List UInt8)},1<=i->D.length<=i->s.drop i=bv alts++125::b->Q (.ret,[(4,.p (.int .i64 ((i+(bv alts).length:Nat):Int))),(5,.own 0 (D++alts).length)],[.row false 1 (strs (D++alts))])->Wp Γ bn (eEnv s 1 i D i) [.row false 1 (strs D)] (aW [0,8] 0 Q):=by intro alts;induction alts with|nil=>simp|cons a f u=>
  intro _ l i D o v c j;have g:∀r,s.drop i=a++r->(s.take (i+a.length)).drop i=a:=λr h=>by grind
  by_cases m:f=[]
  ·subst m;have d:s.drop (i+a.length)=125::b:=by rw[<-List.drop_drop,c];exact List.drop_left
   let⟨k1,k2,q⟩:=fj d;have n:=(aR (s:=s) (i:=i+a.length) 125).2 k2;have k:=g _ c;refine l a (by simp) Q 1 i i D _ c (by omega) o ?_;rw[List.length_append]at j;rw[aa (L:=bn) rfl];simp(disch:=first|exact Dq|fail)only[go_sem,n,k];exact j
  ·rw[jt m]at c j;rw[List.append_assoc]at c;have d:s.drop (i+a.length)=44::(bv f++125::b):=by rw[<-List.drop_drop,c,List.drop_left];rfl
   let⟨k1,k2,q⟩:=fj d;have n:=(aR (s:=s) (i:=i+a.length) 44).2 k2;have k:=g _ c;refine l a (by simp) Q 1 i i D _ c (by omega) o ?_;have :=u m (λx w=>l x (by grind)) (i:=i+a.length+1) (D:=D++[a]) (by omega) (by rw[List.length_append];simp;omega) q (by rw[List.append_assoc];rw[List.length_append,List.length_cons]at j;grind);rw[eEnv,List.length_append]at this;rw[aa (L:=bn) rfl];simp(disch:=first|exact Dq|fail)only[go_sem,n,k];simp_all
theorem res_ends{alts:List (List UInt8)}{f:List UInt8->List (List UInt8)}(k:alts≠[])(j:∀a∈alts,Exp a (f a)){c:List UInt8}(m:s.drop i=123::(bv alts++125::c)):res Γ 57 [.str s,.int .i64 (i:Int)]=some [.int .i64 ((i+1+(bv alts).length:Nat):Int),.sl .any 1 (strs alts)]:=by
 let⟨k1,k2,n⟩:=fj m;have g:=(aR (s:=s) (i:=i) 123).2 k2;refine ae (fn:=Da) rfl rfl ?_;simp(disch:=first|exact Dq|fail)only[go_sem,Da];have :∀Q,Q (.ret,[(4,.p (.int .i64 ((i+1+(bv alts).length:Nat):Int))),(5,.own 0 alts.length)],[.row false 1 (strs alts)])->Wp Γ bn (eEnv s 0 (i+1) [] i) [.row false 1 (strs [])] (aW [0,8] 0 Q):=by intro Q l;refine Ge hs k1 g (by omega) ?_;exact ends_top hs k (λa h=>Sl hs (j a h)) (by omega) (by simp) n l
 refine this _ ?_;simp(disch:=first|exact Dq|fail)only[go_sem]
end
def lZ(p:List UInt8)(m l:List (List UInt8)):List (List UInt8):=m.flatMap λy=>l.map λz=>p++(y++z)
theorem KR{p:List UInt8}{m l:List (List UInt8)}:bJ [p] (bJ m l)=lZ p m l:=by rw[Rs];unfold lZ bJ;rw[List.map_flatMap];congr 1;funext y;simp
theorem xM{p:List UInt8}{m l:List (List UInt8)}:(lZ p m l).length=m.length*l.length:=by rw[<-KR,dJ,dJ];simp
theorem Bf{p:List UInt8}{m l:List (List UInt8)}{j:Nat}(h:j<m.length):lZ p (m.drop j) l=(l.map λz=>p++(m.getD j []++z))++lZ p (m.drop (j+1)) l:=by unfold lZ;rw[List.drop_eq_getElem_cons h,List.flatMap_cons];grind
theorem OV{l:List (List UInt8)}{j:Nat}{g:List UInt8->List UInt8}(h:j<l.length):(l.drop j).map g=g (l.getD j [])::(l.drop (j+1)).map g:=by rw[List.drop_eq_getElem_cons h,List.map_cons];grind
section


variable{k6 k7 k11:SK}{s p:List UInt8}(hs:s.length<=1000000)(hp:s.take p.length=p)(hpl:p.length<=s.length)(alts l0 m:List (List UInt8))(hl0:l0.length<=512)(hm:m.length<=512)(b0:∀x∈l0,x.length<=1000000)(bm:∀x∈m,x.length<=1000000){Q:Out->Prop}
include hs hp hpl hl0 b0 bm
theorem Qe(k j:Nat)(f:j<m.length):∀(n h:Nat)(D:List (List UInt8)),h+n=l0.length->D.length+n<=1000000->Q (.nrm,[(0,.p (.str s)),(4,.p (.int .i64 (p.length:Int))),(6,.p (.sl k6 1 (strs alts))),(7,.p (.sl k7 1 (strs l0))),(9,.own 0 (D++(l0.drop h).map (λz=>p++(m.getD j []++z))).length),(10,.p (.int .i64 (k:Int))),(11,.p (.sl k11 1 (strs m))),(13,.p (.int .i64 (j:Int)))],[.row false 1 (strs (D++(l0.drop h).map (λz=>p++(m.getD j []++z))))])->Wp Γ sK [(0,.p (.str s)),(4,.p (.int .i64 (p.length:Int))),(6,.p (.sl k6 1 (strs alts))),(7,.p (.sl k7 1 (strs l0))),(9,.own 0 D.length),(10,.p (.int .i64 (k:Int))),(11,.p (.sl k11 1 (strs m))),(13,.p (.int .i64 (j:Int))),(14,.p (.int .i64 (h:Int)))] [.row false 1 (strs D)] (aW [0,4,6,7,9,10,11,13] 6 Q):=by have q:=bm _ (getD_mem f);intro n;induction n with
 |zero=>
  intro h D i g e;obtain rfl:h=l0.length:=by omega
  rw[List.drop_length,List.map_nil,List.append_nil]at e;rw[aa (L:=sK) rfl];simp(disch:=first|exact Dq|fail)only[go_sem];grind|succ n c=>
  intro h D i g e;have b:h<l0.length:=by omega
  have l:=b0 _ (getD_mem b);have c:=c (h+1) (D++[p++(m.getD j []++l0.getD h [])]) (by omega) (by grind) (by rw[OV b]at e;grind);rw[List.length_append]at c;rw[aa (L:=sK) rfl];simp(disch:=first|exact Dq|fail)only[go_sem,hp];grind
include hm
theorem Rx(k:Nat):∀(n j:Nat)(D:List (List UInt8)),j+n=m.length->D.length+(lZ p (m.drop j) l0).length<=512->Q (.nrm,[(0,.p (.str s)),(4,.p (.int .i64 (p.length:Int))),(6,.p (.sl k6 1 (strs alts))),(7,.p (.sl k7 1 (strs l0))),(9,.own 0 (D++lZ p (m.drop j) l0).length),(10,.p (.int .i64 (k:Int)))],[.row false 1 (strs (D++lZ p (m.drop j) l0))])->Wp Γ rI [(0,.p (.str s)),(4,.p (.int .i64 (p.length:Int))),(6,.p (.sl k6 1 (strs alts))),(7,.p (.sl k7 1 (strs l0))),(9,.own 0 D.length),(10,.p (.int .i64 (k:Int))),(11,.p (.sl k11 1 (strs m))),(13,.p (.int .i64 (j:Int)))] [.row false 1 (strs D)] (aW [0,4,6,7,9,10] 4 Q):=by intro n;induction n with
 |zero=>
  intro j D i f c;obtain rfl:j=m.length:=by omega
  rw[List.drop_length]at c;have e:lZ p [] l0=[]:=rfl;rw[e,List.append_nil]at c;rw[aa (L:=rI) rfl];simp(disch:=first|exact Dq|fail)only[go_sem];grind|succ n d=>
  intro j D i f c;have b:j<m.length:=by omega
  rw[Bf b,List.length_append,List.length_map]at f;have d:=d (j+1) (D++l0.map (λz=>p++(m.getD j []++z))) (by omega) (by grind) (by rw[Bf b]at c;grind);rw[aa (L:=rI) rfl];simp(disch:=first|exact Dq|fail)only[go_sem];refine Qe hs hp hpl alts l0 m hl0 b0 bm k j b l0.length 0 D (by omega) (by omega) ?_;rw[List.drop_zero];simp(disch:=first|exact Dq|fail)only[go_sem];grind
end
theorem Rj{k6 k7:SK}{s p:List UInt8}(B:s.length<=1000000)(J:s.take p.length=p)(q:p.length<=s.length)(alts c:List (List UInt8))(G:alts.length<=1000000)(f:List UInt8->List (List UInt8))(t:c.length<=512)(r:0<c.length)(b0:∀x∈c,x.length<=1000000)(C:∀a∈alts,((f a).length<=512->∃kk,res Γ 41 [.str a]=some [.sl kk 1 (strs (f a)),.bool true])/\(512<(f a).length->res Γ 41 [.str a]=some [.sl .nil 1 [],.bool false]))(F:∀a∈alts,∀x∈f a,x.length<=1000000){Q:Out->Prop}:∀(n k:Nat)(D:List (List UInt8)),k+n=alts.length->D.length<=512->((D++lZ p ((alts.drop k).flatMap f) c).length<=512->Q (.nrm,[(9,.own 0 (D++lZ p ((alts.drop k).flatMap f) c).length)],[.row false 1 (strs (D++lZ p ((alts.drop k).flatMap f) c))]))->(512<(D++lZ p ((alts.drop k).flatMap f) c).length->∀H,Q (.ret,[(2,.p (.sl .nil 1 [])),(3,.p (.bool false))],H))->Wp Γ mJ [(0,.p (.str s)),(4,.p (.int .i64 (p.length:Int))),(6,.p (.sl k6 1 (strs alts))),(7,.p (.sl k7 1 (strs c))),(9,.own 0 D.length),(10,.p (.int .i64 (k:Int)))] [.row false 1 (strs D)] (aW [9] 2 Q):=by intro n;induction n with
 |zero=>
  intro k D y w o j;obtain rfl:k=alts.length:=by omega
  have e:lZ p ((alts.drop alts.length).flatMap f) c=[]:=by rw[List.drop_length];rfl
  rw[e,List.append_nil]at o;rw[aa (L:=mJ) rfl];simp(disch:=first|exact Dq|fail)only[go_sem];grind|succ n O=>
  intro k D y w o j;have l:k<alts.length:=by omega
  have g:=getD_mem l;let⟨u,v⟩:=C _ g;have A:(alts.drop k).flatMap f=f (alts.getD k [])++(alts.drop (k+1)).flatMap f:=by rw[List.drop_eq_getElem_cons l,List.flatMap_cons];simp[*]
  have z:lZ p ((alts.drop k).flatMap f) c=lZ p (f (alts.getD k [])) c++lZ p ((alts.drop (k+1)).flatMap f) c:=by rw[A];unfold lZ;simp
  rw[z]at o j;have i:=F _ g;let⟨a,d⟩:∃a,alts.getD k []=a:=⟨_,rfl⟩;rw[d]at u v i o j;by_cases h:(f a).length<=512
  ·let⟨kk,m⟩:=u h;let⟨P,N⟩:=ib (a:=(f a).length) (b:=c.length) h (by omega);have I:=@xM p (f a) c;by_cases K:D.length+(f a).length*c.length<=512
   ·have E:(D.length:Int)+((f a).length:Int)*(c.length:Int)<=512:=by grind
    rw[aa (L:=mJ) rfl];simp(disch:=first|exact Dq|fail)only[go_sem,d,m];refine Rx B J q alts c (f a) t h b0 i k (f a).length 0 D (by omega) (by grind) ?_;rw[List.drop_zero];simp(disch:=first|exact Dq|fail)only[go_sem];grind
   ·have E:¬(D.length:Int)+((f a).length:Int)*(c.length:Int)<=512:=by grind
    rw[aa (L:=mJ) rfl];simp(disch:=first|exact Dq|fail)only[go_sem,d,m];exact j (by grind) _
  ·have m:=v (by omega);have I:=@xM p (f a) c;have :=Nat.le_mul_of_pos_right (f a).length r;rw[aa (L:=mJ) rfl];simp(disch:=first|exact Dq|fail)only[go_sem,d,m];exact j (by grind) _
theorem tq{s:List UInt8}(h:s.length<=1000000){e:Nat}(k:e<=s.length)(f:∀j,j<e->byt s j≠123)(d:e=s.length\/byt s e=123){Q:Out->Prop}(g:Q (.nrm,[(0,.p (.str s)),(4,.p (.int .i64 (e:Int)))],[])):∀(n i:Nat),i+n=e->Wp Γ oF [(0,.p (.str s)),(4,.p (.int .i64 (i:Int)))] [] (aW [0,4] 0 Q):=by intro n;induction n with
 |zero=>
  intro i hi;obtain rfl:i=e:=by omega
  by_cases a:i=s.length;·subst a;rw[aa (L:=oF) rfl];simp(disch:=first|exact Dq|fail)only[go_sem];grind
  ·have b:=d.resolve_left a;rw[aa (L:=oF) rfl];simp(disch:=first|exact Dq|fail)only[go_sem,b,ne_eq,not_true_eq_false];grind|succ n c=>intro i hi;have b:=f i (by omega);rw[aa (L:=oF) rfl];simp(disch:=first|exact Dq|fail)only[go_sem];exact c (i+1) (by omega)
theorem run_no{p r:List UInt8}(e:∀c∈p,fD c=false):∀j,j<p.length->byt (p++r) j≠123:=by intro j d h;have h:=(aR 123).1 h;rw[List.getD_eq_getElem?_getD,List.getElem?_append_left d,List.getElem?_eq_getElem d]at h;have h:p[j]=123:=h;have :=e _ (List.getElem_mem d);rw[h]at this;cases this
theorem yn:∀{alts:List (List UInt8)},alts.length<=(bv alts).length+1
 |[]=>by simp|a::b=>by
  have d:=yn (alts:=b);by_cases h:b=[];·grind
  ·rw[jt h,List.length_append,List.length_cons,List.length_cons];omega
theorem res_all{s:List UInt8}{b:List (List UInt8)}(h:Exp s b):s.length<=4096->(b.length<=512->∃kk,res Γ 41 [.str s]=some [.sl kk 1 (strs b),.bool true])/\(512<b.length->res Γ 41 [.str s]=some [.sl .nil 1 [],.bool false]):=by induction h with|run p t=>intro E;have n1:=run_no (r:=[]) t;rw[List.append_nil]at n1;refine⟨λ_=>⟨.tight,?_⟩,λh=>by grind⟩;refine ae (fn:=qf) rfl rfl ?_;simp(disch:=first|exact Dq|fail)only[go_sem,qf];refine tq (s:=p) (by omega) (Nat.le_refl _) n1 (.inl rfl) ?_ p.length 0 (by omega);simp(disch:=first|exact Dq|fail)only[go_sem];rfl|grp p alts f u l t o z D J q=>
  intro E;have B:(p++123::(bv alts++125::u)).length=p.length+((bv alts).length+(u.length+1)+1):=by simp
  have C:(p++123::(bv alts++125::u)).drop p.length=123::(bv alts++125::u):=List.drop_left;have v:(p++123::(bv alts++125::u)).take p.length=p:=List.take_left;have n1:=run_no (r:=123::(bv alts++125::u)) t;generalize p++123::(bv alts++125::u)=s at*;let⟨k1,k2,M⟩:=fj C;have w:=(aR (s:=s) (i:=p.length) 123).2 k2;have A:=res_ends (s:=s) (by omega) o z C;have d:s.drop (p.length+1+(bv alts).length+1)=u:=by rw[<-List.drop_drop,<-List.drop_drop,M,List.drop_left];rfl
  have n:=CL D;have N:=xY D;let⟨I,P⟩:=q (by omega);have O:∀a∈alts,a.length<=4096:=λa h=>by have :=nY h;omega
  have m:0<(alts.flatMap f).length:=by cases alts with|nil=>grind|cons a F=>rw[List.flatMap_cons,List.length_append];have :=CL (z a (by simp));omega
  have c:(((p.length+1+(bv alts).length:Nat):Int)+1).toNat=p.length+1+(bv alts).length+1:=by omega
  have L:=@yn alts;rw[KR];by_cases g:l.length<=512
  ·let⟨kk,k⟩:=I g;have y:=λQ=>Rj (k6:=.any) (k7:=kk) (s:=s) (p:=p) (by omega) v (by omega) alts l (by omega) f g n (λx h=>by grind) (λa h=>J a h (O a h)) (λa h x G=>by have :=xY (z a h) x G;grind) (Q:=Q) alts.length 0 [] (by omega) (by simp);rw[List.drop_zero,List.nil_append]at y;constructor;·intro K;refine⟨.any,?_⟩;refine ae (fn:=qf) rfl rfl ?_;simp(disch:=first|exact Dq|fail)only[go_sem,qf];refine tq (s:=s) (by omega) (e:=p.length) (by omega) n1 (.inr w) ?_ p.length 0 (by omega);simp(disch:=first|exact Dq|fail)only[go_sem,A,c,d,k];refine y _ (λ_=>?_) (λh=>by omega);simp(disch:=first|exact Dq|fail)only[go_sem]
   ·intro K;refine ae (fn:=qf) rfl rfl ?_;simp(disch:=first|exact Dq|fail)only[go_sem,qf];refine tq (s:=s) (by omega) (e:=p.length) (by omega) n1 (.inr w) ?_ p.length 0 (by omega);simp(disch:=first|exact Dq|fail)only[go_sem,A,c,d,k];refine y _ (λh=>by omega) (λ_ H=>?_);rfl
  ·have k:=P (by omega);have :512<(lZ p (alts.flatMap f) l).length:=by rw[xM];have :=Nat.le_mul_of_pos_left l.length m;omega
   refine⟨λh=>by omega,λ_=>?_⟩;refine ae (fn:=qf) rfl rfl ?_;simp(disch:=first|exact Dq|fail)only[go_sem,qf];refine tq (s:=s) (by omega) (e:=p.length) (by omega) n1 (.inr w) ?_ p.length 0 (by omega);simp(disch:=first|exact Dq|fail)only[go_sem,A,c,d,k]
theorem OU{k1 k2:SK}(lo:List (List UInt8))(b:Int)(l:List (List UInt8))(k:l.length<=900000001)(g:∀p∈l,p.length<900000000)(Q:Out->Prop):∀(n i:Nat),i+n=l.length->((l.drop i).all (λq=>(cX q).isSome)=false->Q (.ret,[(2,.p (.sl .nil 1 [])),(3,.p (.int .i64 8))],[]))->((l.drop i).all (λq=>(cX q).isSome)=true->Q (.nrm,[(4,.p (.sl k2 1 (strs lo))),(6,.p (.int .i64 b))],[]))->Wp Γ jT [(4,.p (.sl k2 1 (strs lo))),(6,.p (.int .i64 b)),(7,.p (.sl k1 1 (strs l))),(8,.p (.int .i64 (i:Int)))] [] (aW [4,6] 2 Q):=by intro n;induction n with
 |zero=>
  intro i hi c d;obtain rfl:i=l.length:=by omega
  rw[aa (L:=jT) rfl];simp(disch:=first|exact Dq|fail)only[go_sem];grind|succ n m=>
  intro i hi c d;have a:i<l.length:=by omega
  have h:=g _ (getD_mem a);have e:=oL _ h;rw[pq [] a]at c d;cases f:(cX (l.getD i [])).isSome;·rw[f]at c e;rw[aa (L:=jT) rfl];simp(disch:=first|exact Dq|fail)only[go_sem,e];grind
  ·rw[f]at c d e;rw[aa (L:=jT) rfl];simp(disch:=first|exact Dq|fail)only[go_sem,e];grind
theorem OG{k2:SK}(l:List (List UInt8))(m:l.length<=512)(k:∀p∈l,p.length<900000000)(Q:Out->Prop):∀(n i:Nat),i+n=l.length->((l.drop i).all okE=false->Q (.ret,[(2,.p (.sl .nil 1 [])),(3,.p (.int .i64 8))],[]))->((l.drop i).all okE=true->Q (.nrm,[(4,.p (.sl k2 1 (strs l)))],[]))->Wp Γ jJ [(4,.p (.sl k2 1 (strs l))),(6,.p (.int .i64 (i:Int)))] [] (aW [4] 0 Q):=by intro n;induction n with
 |zero=>
  intro i hi a b;obtain rfl:i=l.length:=by omega
  rw[aa (L:=jJ) rfl];simp(disch:=first|exact Dq|fail)only[go_sem];grind|succ n f=>
  intro i hi a b;have c:i<l.length:=by omega
  have q:=k _ (getD_mem c);rw[pq [] c]at a b;unfold okE at a b;have j:=bz 46 (l.getD i []);have g:=@count_le (l.getD i []) 46;by_cases d:l.getD i []=[];·rw[d]at a;rw[aa (L:=jJ) rfl];simp(disch:=first|exact Dq|fail)only[go_sem,d];grind
  ·rw[decide_eq_true d,Bool.true_and]at a b;rw[aa (L:=jJ) rfl];simp(disch:=first|exact Dq|fail)only[go_sem];refine OU (k1:=.any) _ _ (splitB 46 (l.getD i [])) (by omega) (λp e=>by have :=bD e;omega) _ (splitB 46 (l.getD i [])).length 0 (by omega) (λh=>?_) (λh=>?_);·rw[List.drop_zero]at h;simp(disch:=first|exact Dq|fail)only[go_sem];grind
   ·rw[List.drop_zero]at h;rw[h,Bool.true_and]at a b;simp(disch:=first|exact Dq|fail)only[go_sem];exact f (i+1) (by omega) a b
theorem zE(s:List UInt8)(a:s.length<900000000)(h:4096<s.length\/scan 0 s=false):res Γ 15 [.str s]=some [.sl .nil 1 [],.int .i64 8]:=by
 have e:=vj s a;refine ae (fn:=iH) rfl rfl ?_;by_cases b:4096<s.length;·simp(disch:=first|exact Dq|fail)only[go_sem,iH]
 ·have h:=h.resolve_left b;rw[h]at e;simp(disch:=first|exact Dq|fail)only[go_sem,iH,e]
def DM(kk:SK)(out:List (List UInt8)):List PV:=if 512<out.length then[.sl .nil 1 [],.int .i64 13]else if out.all okE=true then[.sl kk 1 (strs out),.int .i64 0]else[.sl .nil 1 [],.int .i64 8]
theorem GC(s:List UInt8)(f:s.length<=4096){a:List (List UInt8)}(h:Exp s a):∃kk,res Γ 15 [.str s]=some (DM kk a):=by
 have e:=vj s (by omega);rw[za h]at e;let⟨d,g⟩:=res_all h f;have i:=xY h;by_cases b:512<a.length;·have c:=g b;refine⟨.any,?_⟩;unfold DM;rw[if_pos b];refine ae (fn:=iH) rfl rfl ?_;simp(disch:=first|exact Dq|fail)only[go_sem,iH,e,c]
 ·let⟨kk,c⟩:=d (by omega);refine⟨kk,?_⟩;unfold DM;rw[if_neg b];refine ae (fn:=iH) rfl rfl ?_;simp(disch:=first|exact Dq|fail)only[go_sem,iH,e,c];refine OG a (by omega) (λp j=>by grind) _ a.length 0 (by omega) (λh=>?_) (λh=>?_);·rw[List.drop_zero]at h;rw[if_neg (by grind)];rfl
  ·rw[List.drop_zero]at h;rw[if_pos h];simp(disch:=first|exact Dq|fail)only[go_sem]
abbrev HitB:=List UInt8×Bool
def hitM(K:List HitB):List (PV×AV):=K.map λh=>(hitP h,.p (.bool true))
def addK(K:List HitB)(h:HitB):List HitB:=if h∈K then K else K++[h]
theorem mput_hit(K:List HitB)(h:HitB):Cy [2,1] [.str h.1,.bool h.2] (.p (.bool true)) (hitM K)=some (hitM (addK K h)):=by induction K with|nil=>rfl|cons x r f=>
  let⟨s,l⟩:=h;let⟨a,b⟩:=x;have i:aN [2,1] [.str s,.bool l] [.str a,.bool b]=some ((s==a)&&((l==b)&&true)):=rfl;simp only[hitM,List.map_cons,hitP,Cy,i];by_cases g:(s,l)=(a,b);·have m:=(Prod.mk.inj g).1;have j:=(Prod.mk.inj g).2;subst m j;simp[addK]
  ·have k:((s==a)&&((l==b)&&true))=false:=by grind
   rw[k];have f:Cy [2,1] [.str s,.bool l] (.p (.bool true)) (List.map (λh=>(PV.agg [.str h.1,.bool h.2],AV.p (.bool true))) r)=some (hitM (addK r (s,l))):=f;simp[f,];unfold addK;by_cases e:(s,l)∈r;·have :(s,l)∈(a,b)::r:=List.mem_cons_of_mem _ e;simp only[if_pos e,if_pos this,hitM,List.map_cons,hitP]
   ·have :(s,l)∉(a,b)::r:=λh=>by grind
    simp only[if_neg e,if_neg this,hitM,List.map_cons,List.cons_append,hitP]
noncomputable def wantB(w:Path)(d:Nat)(k:List UInt8):Bool:=decide (d<w.length)&&matchB (w.getD d []) k
theorem TD{kk:SK}{H:Heap}{c:Nat}(w:Path)(g:H[c]?=some (.box [.p (.sl kk 1 (strs w))]))(f:w.length<=1000)(b:∀p∈w,p.length<=10000)(d:Nat)(i:d<=1000)(k:List UInt8)(l:k.length<=10000):resW Γ 411 [.p (.int .i64 (d:Int)),.p (.str k),.bx c 0] H=some ([.p (.bool (wantB w d k))],H):=by
 unfold wantB;by_cases a:d<w.length;·have m:(w.getD d []).length<=10000:=b _ (by grind);have h:=Dk (w.getD d []) k (by omega) (by omega);have e:=decide_eq_true a;refine ah (fn:=dM) rfl rfl ?_;simp(disch:=first|exact Dq|fail)only[go_sem,dM,g,h,e]
 ·have e:=decide_eq_false a;refine ah (fn:=dM) rfl rfl ?_;simp(disch:=first|exact Dq|fail)only[go_sem,dM,g,e]
theorem Gt{H:Heap}{a:Nat}{K:List HitB}(h:H[a]?=some (.box (ak (hitM K))))(s:List UInt8)(b:Bool):Cb H [2,1] (.mp a) (.p (.agg [.str s,.bool b])) (.p (.bool true))=some (H.set a (.box (ak (hitM (addK K (s,b)))))):=by
 have e:aN [2,1] [.str s,.bool b] [.str s,.bool b]=some true:=by simp[aN]
 have d:mapOf H a=some (hitM K):=by unfold mapOf;rw[h];exact vt _
 have c:=mput_hit K (s,b);simp  at c;simp[Cb,e,ok_p,d,c,ifB]
section


variable{kk:SK}{H:Heap}{wb sb sm b m id:Nat}{w q:Path}{K:List HitB}{lf:Bool}{es:List (PV×AV)}
def CQ(K:List HitB)(s:List UInt8)(lf kids:Bool):List HitB:=let K1:=if lf=true then addK K (s,true)else K;if kids=true then addK K1 (s,false)else K1
theorem AM(e:H[wb]?=some (.box [.p (.sl kk 1 (strs w))]))(a:H[id]?=some (.row false 1 (strs q)))(h:q.length<w.length):resW Γ 412 [.own id q.length,.bx b 0,.bx wb 0,.bx sb 0] H=some ([],H):=by refine ah (fn:=br) rfl rfl ?_;simp(disch:=first|exact Dq|fail)only[go_sem,br,e,a]
theorem Gz(k:H[wb]?=some (.box [.p (.sl kk 1 (strs w))]))(l:H[id]?=some (.row false 1 (strs q)))(h:¬q.length<w.length)(I:q.length<=20)(G:(bI [46] q).length<=1000)(j:H[b]?=some (.box [.mp m,.p (.bool lf)]))(z:H[m]?=some (.box (ak es)))(s:H[sb]?=some (.box [.mp sm]))(d:H[sm]?=some (.box (ak (hitM K))))(u:sm≠b)(v:sm≠m)(y:sm≠sb):resW Γ 412 [.own id q.length,.bx b 0,.bx wb 0,.bx sb 0] H=some ([],H.set sm (.box (ak (hitM (CQ K (bI [46] q) lf (!es.isEmpty)))))):=by have i:=ou (kk:=.any) q (by omega) (by omega);have f:=(List.getElem?_eq_some_iff.1 d).1;have n:∀c,(H.set sm (.box (ak (hitM c))))[sm]?=some (.box (ak (hitM c)))/\(H.set sm (.box (ak (hitM c))))[b]?=some (.box [.mp m,.p (.bool lf)])/\(H.set sm (.box (ak (hitM c))))[m]?=some (.box (ak es))/\(H.set sm (.box (ak (hitM c))))[sb]?=some (.box [.mp sm]):=λc=>⟨List.getElem?_set_self f,by grind,by grind,by grind⟩;have o:=λb=>Gt d (bI [46] q) b;cases lf with
 |true=>let⟨k1,k2,A,E⟩:=n (addK K (bI [46] q,true));cases es with|nil=>refine ah (fn:=br) rfl rfl ?_;simp(disch:=first|exact Dq|fail)only[go_sem,br,k,l,i,j,s,o,k2,A];rfl|cons x r=>have D:=Gt k1 (bI [46] q) false;refine ah (fn:=br) rfl rfl ?_;simp(disch:=first|exact Dq|fail)only[go_sem,br,k,l,i,j,s,o,k2,A,E,D];rw[List.set_set];rfl
 |false=>cases es with|nil=>
   have e:H.set sm (.box (ak (hitM (CQ K (bI [46] q) false true.not))))=H:=by have C:CQ K (bI [46] q) false true.not=K:=rfl;rw[C];apply List.ext_getElem?;grind
   refine ah (fn:=br) rfl rfl ?_;simp(disch:=first|exact Dq|fail)only[go_sem,br,k,l,i,j,z];grind|cons x r=>refine ah (fn:=br) rfl rfl ?_;simp(disch:=first|exact Dq|fail)only[go_sem,br,k,l,i,j,z,s,o];rfl
end
def qV(N:Tri)(q:Path):Bool:=match N q with|some nd=>!nd.kids.isEmpty|none=>false
def stF(N:Tri)(w:Path)(K:List HitB)(q:Path):List HitB:=if q.length<w.length then K else CQ K (bI [46] q) (bZ N q) (qV N q)
structure FindJ(N:Tri)(r n wb sb sm:Nat)(w:Path)(B:Nat)(K:List HitB)(H:Heap):Prop where
 lies:Lies H N r n
 base:∀i,Foot N i->i<B
 map:B<=sm
 want:H[wb]?=some (.box [.p (.sl .any 1 (strs w))])box:H[sb]?=some (.box [.mp sm])seen:H[sm]?=some (.box (ak (hitM K)))
theorem Gk(l:List (List UInt8×Nat)):(mI l).isEmpty=l.isEmpty:=by cases l<;>rfl
theorem SG{N:Tri}(v:Tiny N)(r n u A x:Nat)(w:Path)(B:Nat)(y:w.length<=1000)(C:∀p∈w,p.length<=10000):Goes Γ N 411 412 [.bx u 0] [.bx u 0,.bx A 0] (wantB w) (stF N w) (FindJ N r n u A x w B) (λ_ i=>i=x) (λ_=>0) 1000000 where
 lies s H h:=⟨r,n,h.lies⟩;ext s H L h D:=by have k:∀i b,H[i]?=some b->L[i]?=some b:=λi b m=>(D.2 i (List.getElem?_eq_some_iff.1 m).1).trans m;exact⟨⟨h.lies.keep λi hi=>D.2 i (h.lies.foot_lt hi),h.base,h.map,k _ _ h.want,k _ _ h.box,k _ _ h.seen⟩,λ_ h=>h⟩
 lt s H i h l:=by subst l;exact(List.getElem?_eq_some_iff.1 h.seen).1
 wants s H q k c h d:=by have T:=(v.deep _ c d).1;let⟨z,J,M⟩:=h.lies.up q k c d;have F:=(v.kids q z J).2 _ M;simp  at F;exact⟨H,TD w h.want y C q.length (by grind) k (by omega),.refl _⟩
 grow s q:=by omega
 still:=⟨rfl,rfl⟩;small:=v.kids;meets s H q c P h _ G d j:=by
  let⟨K,I⟩:=v.deep q c d;have m:=h.lies.box q c d;have E:=h.lies.map q c d;rw[uB G]at m;by_cases f:q.length<w.length;·refine⟨H,AM h.want j f,?_,Nat.le_refl _,λi _ l=>⟨rfl,l⟩⟩;rw[stF,if_pos f];grind
  ·have t:=(List.getElem?_eq_some_iff.1 h.seen).1;have Q:=h.base _ ⟨q,c,d,.inl rfl⟩;have O:=h.base _ ⟨q,c,d,.inr rfl⟩;have R:=h.map;have g:x≠A:=λe=>by have :=h.seen;rw[e,h.box]at this;simp[ak]at this
   have o:x≠u:=λe=>by have :=h.seen;rw[e,h.want]at this;simp[ak]at this
   refine⟨_,Gz h.want j f K I m E h.box h.seen (by omega) (by omega) g,?_,by simp,λi _ l=>⟨List.getElem?_set_ne (λe=>l e.symm),l⟩⟩;have e:stF N w s q=CQ s (bI [46] q) c.leaf (!(mI c.kids).isEmpty):=by rw[stF,if_neg f,mR d,Gk];simp[qV,d]
   rw[e];exact⟨h.lies.keep λi hi=>List.getElem?_set_ne (λe=>by have :=h.base i hi;omega),h.base,h.map,by rw[List.getElem?_set_ne o];exact h.want,by rw[List.getElem?_set_ne g];exact h.box,List.getElem?_set_self t⟩
def kR(l:List Path):List PV:=l.map λw=>.sl .any 1 (strs w)
theorem pP{l:List Path}:(kR l).length=l.length:=by simp[kR]
theorem Oj{l:List Path}{i:Nat}(h:i<l.length):(kR l)[i]?=some (.sl .any 1 (strs (l.getD i []))):=by simp[kR,List.getElem?_eq_getElem h]
noncomputable def findK(N:Tri)(ws:List Path)(K:List HitB):List HitB:=ws.foldl (λK w=>(vis N (wantB w) 21 []).foldl (stF N w) K) K
structure FindS(N:Tri)(r n al sb sm:Nat)(ws:List Path)(B:Nat)(H0:Heap)(K:List HitB)(H:Heap):Prop where
 lies:Lies H N r n
 base:∀i,Foot N i->i<B
 map:B<=sm
 all:H[al]?=some (.row false 1 (kR ws))box:H[sb]?=some (.box [.mp sm])seen:H[sm]?=some (.box (ak (hitM K)))old:∀i,i<B->H[i]?=H0[i]?
 len:B<=H.length
section


variable{N:Tri}{r n al sb sm:Nat}{ws:List Path}{B:Nat}{H0:Heap}
theorem FindS.go(z:Tiny N)(E:∀w,(vis N (wantB w) 21 []).length<=100000){K:List HitB}{H:Heap}(h:FindS N r n al sb sm ws B H0 K H)(w:Path)(q:w.length<=1000)(l:∀p∈w,p.length<=10000):∃d,resW Γ 413 [.bx r 0,.p (.sl .nil 1 []),.p (.int .i64 0),.clo 411 [.bx H.length 0],.clo 412 [.bx H.length 0,.bx sb 0]] (H++[.box [.p (.sl .any 1 (strs w))]])=some ([],d)/\FindS N r n al sb sm ws B H0 ((vis N (wantB w) 21 []).foldl (stF N w) K) d:=by
 obtain⟨o,C,rfl⟩:=h.lies.root;have k:∀i b,H[i]?=some b->(H++[Blk.box [AV.p (.sl .any 1 (strs w))]])[i]?=some b:=λi b u=>(List.getElem?_append_left (List.getElem?_eq_some_iff.1 u).1).trans u;have A:FindJ N o.b n H.length sb sm w B K (H++[Blk.box [AV.p (.sl .any 1 (strs w))]]):=⟨h.lies.keep λi hi=>List.getElem?_append_left (h.lies.foot_lt hi),h.base,h.map,by simp,k _ _ h.box,k _ _ h.seen⟩;let⟨d,y,a,g⟩:=IM (SG z o.b n H.length sb sm w B q l) (wv:=.clo 411 [.bx H.length 0]) (mv:=.clo 412 [.bx H.length 0,.bx sb 0]) rfl rfl 21 [] o (.p (.sl .nil 1 [])) K _ C (λt m F=>by have :=(z.deep t m (by grind)).1;omega) (by simp) (by grind) A (.inl ⟨rfl,rfl⟩);have D:((List.length ([]:Path):Nat):Int)=0:=rfl;rw[D]at y;have s:al≠sm:=λe=>by have :=h.all;rw[e,h.seen]at this;grind
 refine⟨d,y,a.lies,h.base,h.map,?_,a.box,a.seen,λi hi=>?_,by have :=g.1;have :=h.len;grind⟩;·rw[(g.2 al (List.getElem?_eq_some_iff.1 (k _ _ h.all)).1 s).1];exact k _ _ h.all
 ·have G:=h.map;have v:=h.len;rw[(g.2 i (by grind) (by omega)).1,List.getElem?_append_left (by omega)];exact h.old i hi
theorem MM(C:Tiny N)(x:∀w,(vis N (wantB w) 21 []).length<=100000)(D:ws.length<=1000)(m:∀w∈ws,w.length<=1000/\∀p∈w,p.length<=10000)(u:List HitB)(Q:Out->Prop)(A:∀e j,look e 13=.bx sb 0->FindS N r n al sb sm ws B H0 (findK N ws u) j->Q (.ex 2,e,j)):∀(f i:Nat)(K:List HitB)(H:Heap),i+f=ws.length->FindS N r n al sb sm ws B H0 K H->findK N (ws.drop i) K=findK N ws u->Wp Γ du [(0,.bx r 0),(13,.bx sb 0),(46,.own al ws.length),(47,.p (.int .i64 (ws.length:Int))),(48,.p (.int .i64 (i:Int)))] H Q:=by intro f;induction f with
 |zero=>
  intro i K H hi k b;have hi:i=ws.length:=by omega
  subst hi;rw[List.drop_length]at b;have b:=b;subst b;rw[aa (L:=du) rfl];simp(disch:=first|exact Dq|fail)only[go_sem,du];exact A _ _ rfl k|succ f o=>
  intro i K H hi k b;have q:i<ws.length:=by omega
  have c:ws.drop i=ws.getD i []::ws.drop (i+1):=by simp[*]
  let⟨s,l⟩:=m (ws.getD i []) (by grind);rw[c]at b;let⟨j,y,z⟩:=k.go C x (ws.getD i []) s l;have o:=o (i+1) _ j (by omega) z b;have a:=k.all;have g:kj H 1 false (.el al ws.length i 0)=some (.p (.sl .any 1 (strs (ws.getD i [])))):=by simp[kj,lX,a,jP pP,Oj q,PV.cells,nT]
  have d:iaddrA H 1 (.own al ws.length) (.p (.int .i64 (i:Int)))=some (.el al ws.length i 0):=Tw a pP (by omega) (by omega);rw[UQ,a]at d;rw[load_K,a]at g;rw[aa (L:=du) rfl];simp(disch:=first|exact Dq|fail)only[go_sem,du,a,d,g,dB,dR,CO,y];exact o
end
noncomputable def patOk(p:List UInt8):Bool:=(splitB 46 p).all uM&&decide ((splitB 46 p).length<=20)
theorem EV{p:List UInt8}(h:patOk p=true):Bk p=[.sl .any 1 (strs (splitB 46 p)),.int .i64 0]:=by simp only[patOk,Bool.and_eq_true,decide_eq_true_eq]at h;exact if_pos h
theorem EI{p:List UInt8}(h:patOk p=false):Bk p=[.sl .nil 1 [],.int .i64 8]:=by
 refine if_neg λb=>?_;have :patOk p=true:=by simp[patOk,];grind
 grind
theorem tU{kk:SK}{t:AV}(a:List (List UInt8))(w:a.length<=1000)(o:∀p∈a,p.length<=100000)(H0:Heap)(Q:Out->Prop)(n:(∀p∈a,patOk p=true)->∀e,look e 0=t->look e 8=.own H0.length a.length->Q (.ex 0,e,H0++[.row false 1 (kR (a.map prt))]))(m:(¬∀p∈a,patOk p=true)->∀e b,look e 4=.p (.sl .nil 2 [])->look e 5=.p (.int .i64 8)->Q (.ret,e,H0++[b])):∀(f i:Nat),i+f=a.length->(∀p∈a.take i,patOk p=true)->Wp Γ cq [(0,t),(8,.own H0.length i),(24,.p (.sl kk 1 (strs a))),(25,.p (.int .i64 (a.length:Int))),(26,.p (.int .i64 (i:Int)))] (H0++[.row false 1 (kR ((a.take i).map prt))]) Q:=by intro f;induction f with
 |zero=>
  intro i hi d;have hi:i=a.length:=by omega
  subst hi;rw[List.take_length]at d⊢;rw[aa (L:=cq) rfl];simp(disch:=first|exact Dq|fail)only[go_sem,cq];exact n d _ rfl rfl|succ f l=>
  intro i hi d;have s:i<a.length:=by omega
  have r:a.take (i+1)=a.take i++[a.getD i []]:=by simp[*]
  have g:a.getD i []∈a:=by grind
  have u:=o _ g;have c:=Ec (a.getD i []) (by omega);cases q:patOk (a.getD i [])with|true=>
   rw[EV q]at c;have l:=l (i+1) (by omega) (λp o=>by grind);have j:(kR ((a.take i).map prt)).length=i:=by rw[pP,List.length_map,List.length_take];omega
   have k:appK (H0++[.row false 1 (kR ((a.take i).map prt))]) (some (.row false 1 (kR ((a.take i).map prt)))) 1 H0.length i [.sl .any 1 (strs (splitB 46 (a.getD i [])))]=some (.own H0.length (i+1),H0++[.row false 1 (kR ((a.take (i+1)).map prt))]):=by rw[Kl j (by grind),dR rfl,r];simp[kR]
   rw[aa (L:=cq) rfl];simp(disch:=first|exact Dq|fail)only[go_sem,cq,c,dB,k];exact l|false=>rw[EI q]at c;rw[aa (L:=cq) rfl];simp(disch:=first|exact Dq|fail)only[go_sem,cq,c];exact m (λh=>by grind) _ _ rfl rfl
theorem mem_addK{K:List HitB}{h x:HitB}:x∈addK K h↔x∈K\/x=h:=by unfold addK;grind
theorem SB{K:List HitB}{s:List UInt8}{lf a:Bool}{x:HitB}:x∈CQ K s lf a↔x∈K\/(lf=true/\x=(s,true))\/(a=true/\x=(s,false)):=by unfold CQ;cases lf<;>cases a<;>simp[mem_addK,or_assoc]
theorem pH{K:List HitB}{h:HitB}(a:K.Nodup):(addK K h).Nodup:=by unfold addK;grind
theorem HD{K:List HitB}{s:List UInt8}{lf a:Bool}(b:K.Nodup):(CQ K s lf a).Nodup:=by
 unfold CQ;cases lf<;>cases a;·grind
 ·exact pH b
 ·exact pH b
 ·exact pH (pH b)
def xn(N:Tri)(w q:Path)(x:HitB):Prop:=w.length<=q.length/\((bZ N q=true/\x=(bI [46] q,true))\/(qV N q=true/\x=(bI [46] q,false)))
theorem mem_stF{N:Tri}{w q:Path}{K:List HitB}{x:HitB}:x∈stF N w K q↔x∈K\/xn N w q x:=by
 unfold stF xn;split;·grind
 ·rename_i h;rw[SB];grind
theorem RP{N:Tri}{w:Path}{x:HitB}:∀{l:List Path}{K:List HitB},x∈l.foldl (stF N w) K↔x∈K\/∃q∈l,xn N w q x:=by intro l;induction l with|nil=>simp|cons q l a=>intro K;rw[List.foldl_cons,a,mem_stF];grind
theorem JG{N:Tri}{w:Path}:∀{l:List Path}{K:List HitB},K.Nodup->(l.foldl (stF N w) K).Nodup:=by intro l;induction l with|nil=>simp|cons q l a=>
  intro K h;rw[List.foldl_cons];refine a ?_;unfold stF;split;·grind
  ·exact HD h
theorem mem_findK{N:Tri}{x:HitB}:∀{ws:List Path}{K:List HitB},x∈findK N ws K↔x∈K\/∃w∈ws,∃q∈vis N (wantB w) 21 [],xn N w q x:=by intro ws;induction ws with|nil=>intro K;simp[findK]|cons w ws b=>intro K;have e:findK N (w::ws) K=findK N ws ((vis N (wantB w) 21 []).foldl (stF N w) K):=rfl;rw[e,b,RP];grind
theorem HO{N:Tri}:∀{ws:List Path}{K:List HitB},K.Nodup->(findK N ws K).Nodup:=by intro ws;induction ws with|nil=>exactλh=>h|cons w ws a=>exactλh=>a (JG h)
theorem JU{K:List HitB}(h:∀x∈K,x.1.length<=lim):cR (hitM K)=some K:=by induction K with|nil=>rfl|cons x r c=>let⟨s,l⟩:=x;have b:=h (s,l) (by simp);have a:=c λx d=>h x (by grind);simp[hitM]at a;simp only[hitM,List.map_cons,hitP,cR];rw[if_pos b];simp[hitP]at a;grind
theorem QZ{N:Tri}(e:Tiny N){ws:List Path}:∀x∈findK N ws [],x.1.length<=1000:=by
 intro x c;rcases mem_findK.1 c with h|⟨w,_,q,_,f,d⟩;·grind
 ·have a:∃b,N q=some b:=by
   rcases d with⟨h,_⟩|⟨h,_⟩;·exact zI h
   ·unfold qV at h;grind
  let⟨b,a⟩:=a;have :=(e.deep q b a).2;grind
theorem MS(m:Nat)(H:Heap):resW Γ 408 [.mp m] H=some ([.clo 425 [.bx H.length 0]],H++[.box [.mp m]]):=by refine ah (fn:=aZ) rfl rfl ?_;simp(disch:=first|exact Dq|fail)only[go_sem,aZ,boxA]
theorem still408:aw Γ 408=true:=rfl
theorem still409:aw Γ 409=true:=rfl
theorem OQ{H:Heap}{m:Nat}{K:List HitB}(h:H[m]?=some (.box (ak (hitM K))))(f:∀x∈K,x.1.length<=1000)(r:K.length<=lim):resW Γ 409 [.clo 425 [.bx H.length 0],.p (.clo 410 [])] (H++[.box [.mp m]])=some ([.p (rowH (Cr K))],H++[.box [.mp m]]):=by
 have d:=(List.getElem?_eq_some_iff.1 h).1;have i:dj (H++[.box [.mp m]]) H.length=some [.mp m]:=by simp[dj]
 have j:mapOf (H++[.box [.mp m]]) m=some (hitM K):=by unfold mapOf;rw[List.getElem?_append_left d,h];exact vt _
 have o:=JU (K:=K) λx l=>Nat.le_trans (f x l) (by decide);refine OC (c:=410) (fn:=gq) (q:=hitsQ) (g:=hitsG [425] 410) (ps:=K.flatMap λa=>K.map λb=>([hitP a,hitP b],cmpH a b)) (rs:=[rowH (Cr K)]) rfl rfl ?_ ?_ ?_;·show(dj (H++[.box [.mp m]]) H.length).bind (SM (H++[.box [.mp m]]))=_;rw[i];show(mapOf (H++[.box [.mp m]]) m).bind _=_;grind
 ·show(dj (H++[.box [.mp m]]) H.length).bind (hitsV (H++[.box [.mp m]]))=_;rw[i];show(mapOf (H++[.box [.mp m]]) m).bind _=_;rw[j];show(cR (hitM K)).bind _=_;rw[o];show(if(hitM K).length<=lim then _ else _)=_;rw[if_pos (by unfold hitM;grind)]
 ·intro p e;let⟨a,n,e⟩:=List.mem_flatMap.1 e;obtain⟨b,k,rfl⟩:=List.mem_map.1 e;exact JK a b (f a n) (f b k)
theorem Je{t:AV}{H:Heap}{s:List UInt8}{e:Int}(h:res Γ 16 [.str s]=some [.sl .nil 1 [],.int .i64 e])(a:e≠0):resW Γ 394 [t,.p (.str s)] H=some ([.p (.sl .nil 2 []),.p (.int .i64 e)],H):=by refine ah (fn:=cw) rfl rfl ?_;simp(disch:=first|exact Dq|fail)only[go_sem,cw,h]
theorem Jd{kk:SK}{t:AV}{H:Heap}{s:List UInt8}{a:Path}(h:res Γ 16 [.str s]=some [.sl kk 1 (strs a),.int .i64 0])(g:a.length<=1000)(k:∀p∈a,p.length<=100000)(f:¬∀p∈a,patOk p=true):∃c,resW Γ 394 [t,.p (.str s)] H=some ([.p (.sl .nil 2 []),.p (.int .i64 8)],c)/\Ext0 H c:=by
 have j:∃rs c,resW Γ 394 [t,.p (.str s)] H=some (rs,c)/\rs=[.p (.sl .nil 2 []),.p (.int .i64 8)]/\Ext0 H c:=by refine ci (fn:=cw) (K:=λrs c=>rs=[.p (.sl .nil 2 []),.p (.int .i64 8)]/\Ext0 H c) rfl rfl ?_;simp(disch:=first|exact Dq|fail)only[go_sem,cw,h];refine tU a g k H _ (λh=>absurd h f) (λ_ e b i d=>?_) a.length 0 (by omega) (by simp);simp(disch:=first|exact Dq|fail)only[go_sem,i,d];exact Ext0.app _ _
 grind
theorem Io{kk:SK}{H:Heap}{s:List UInt8}{a:Path}(h:res Γ 16 [.str s]=some [.sl kk 1 (strs a),.int .i64 0])(f:a.length<=1000)(j:∀p∈a,p.length<=100000)(d:∀p∈a,patOk p=true):∃b,resW Γ 394 [.p .nilp,.p (.str s)] H=some ([.p (.sl .nil 2 []),.p (.int .i64 0)],b)/\Ext0 H b:=by
 have i:∃rs b,resW Γ 394 [.p .nilp,.p (.str s)] H=some (rs,b)/\rs=[.p (.sl .nil 2 []),.p (.int .i64 0)]/\Ext0 H b:=by refine ci (fn:=cw) (K:=λrs b=>rs=[.p (.sl .nil 2 []),.p (.int .i64 0)]/\Ext0 H b) rfl rfl ?_;simp(disch:=first|exact Dq|fail)only[go_sem,cw,h];refine tU a f j H _ (λ_ e g c=>?_) (λh=>absurd d h) a.length 0 (by omega) (by simp);simp(disch:=first|exact Dq|fail)only[go_sem,g,c];exact Ext0.app _ _
 grind
theorem len3{H:Heap}{a b:Blk}:List.length (H++[a,b])=H.length+2:=by simp
theorem at3{H:Heap}{a b c:Blk}:(H++[a,b,c])[H.length+2]?=some c:=by simp
theorem set3{H:Heap}{a b c d:Blk}:(H++[a,b,c]).set (H.length+2) d=H++[a,b,d]:=by simp
theorem at3a{H:Heap}{a b c:Blk}:(H++[a,b,c])[H.length]?=some a:=by simp
def Sh(K:List HitB):List AV:=if 512<K.length then[.p (.sl .nil 2 []),.p (.int .i64 13)]else[.p (rowH (Cr K)),.p (.int .i64 0)]
theorem op_find{kk:SK}{N:Tri}{H:Heap}{r:Nat}{L:Path}(m:TrieN N H r L)(C:Nms L){s:List UInt8}{a:Path}(h:res Γ 16 [.str s]=some [.sl kk 1 (strs a),.int .i64 0])(I:a.length<=1000)(B:∀p∈a,p.length<=10000)(A:∀p∈a,patOk p=true):∃b,resW Γ 394 [.bx r 0,.p (.str s)] H=some (Sh (findK N (a.map prt) []),b)/\Ext0 H b:=by
 have z:=m.tiny C;have y:=QZ z (ws:=a.map prt);have J:∃rs b,resW Γ 394 [.bx r 0,.p (.str s)] H=some (rs,b)/\rs=Sh (findK N (a.map prt) [])/\Ext0 H b:=by
  refine ci (fn:=cw) (K:=λrs b=>rs=Sh (findK N (a.map prt) [])/\Ext0 H b) rfl rfl ?_;simp(disch:=first|exact Dq|fail)only[go_sem,cw,h];refine tU a I (λp h=>Nat.le_trans (B p h) (by omega)) H _ (λ_ e F O=>?_) (λh=>absurd A h) a.length 0 (by omega) (by simp);have v:rowAt (some (Blk.row false 1 (kR (a.map prt)))) a.length=some (1,kR (a.map prt)):=jP (by rw[pP,List.length_map]);simp(disch:=first|exact Dq|fail)only[go_sem,F,O,len2,len3,at3,set3,at3a,v];have E:FindS N r L.length H.length (H.length+2) (H.length+1) (a.map prt) H.length H [] (H++[Blk.row false 1 (kR (a.map prt)),Blk.box (ak (hitM [])),Blk.box [.mp (H.length+1)]]):={lies:=m.lies.keep λi hi=>List.getElem?_append_left (m.lies.foot_lt hi),base:=λi hi=>m.lies.foot_lt hi,map:=by omega,all:=by simp,box:=by simp,seen:=by simp,old:=λi hi=>List.getElem?_append_left hi,len:=by simp};have d:(a.map prt).length=a.length:=by simp
  have G:findK N ((a.map prt).drop 0) []=findK N (a.map prt) []:=rfl;have n:=λQ D=>MM z (λw=>m.vis_len C (wantB w)) (ws:=a.map prt) (by grind) (λw M=>by obtain⟨p,j,rfl⟩:=List.mem_map.1 M;have k:=A p j;simp[patOk,]at k;exact⟨Nat.le_trans k.2 (by omega),λx u=>Nat.le_trans (bD u) (B p j)⟩) [] Q D (a.map prt).length 0 [] _ (by omega) E G;rw[d]at n;refine n _ λe b q t=>?_;have o:=t.box;have c:=t.seen;have g:(hitM (findK N (a.map prt) [])).length=(findK N (a.map prt) []).length:=by simp[hitM]
  have u:Ext0 H b:=⟨t.len,t.old⟩;have k1:=MS (H.length+1) b;unfold Sh;by_cases f:512<(findK N (a.map prt) []).length;·rw[if_pos f];simp(disch:=first|exact Dq|fail)only[go_sem,q,o,c,g];grind
  ·rw[if_neg f];have k2:=OQ c y (by unfold lim;omega);simp(disch:=first|exact Dq|fail)only[go_sem,q,o,c,g,still408,still409,k1,k2];exact u.trans (Ext0.app _ _)
 grind
end Ab
namespace Ab
open Go (IntKind BinOp UnOp)
open Go.RowKit Go.Maps Go.Sort Go.Proofs
def DY(w ps:Path):Prop:=w.length<=ps.length/\∀i,i<w.length->matchB (w.getD i []) (ps.getD i [])=true
open Classical in
noncomputable def hitB(w:Path)(s:List UInt8):Option HitB:=if DY w (prt s)then some (bI [46] ((prt s).take w.length),decide ((prt s).length=w.length))else none
def layH(x:HitB):List HitB->List HitB|[]=>[x]|t::r=>if ew t x then t::layH x r else if t=x then t::r else x::t::r
noncomputable def layO(D:List HitB)(o:Option HitB):List HitB:=match o with|some x=>layH x D|none=>D
noncomputable def refW(w:Path)(L:Path)(D:List HitB):List HitB:=L.foldl (λD s=>layO D (hitB w s)) D
noncomputable def refK(ws:List Path)(L:Path)(D:List HitB):List HitB:=ws.foldl (λD w=>refW w L D) D
def ltH(a b:HitB):Prop:=ew a b=true
theorem Sr{a b c:HitB}(e:ltH a b)(f:ltH b c):ltH a c:=by
 have e:ltOf cfT (unp a) (unp b)=true:=by rw[<-dN];exact e
 have f:ltOf cfT (unp b) (unp c)=true:=by rw[<-dN];exact f
 have :=mA e f;rw[<-dN]at this;exact this
theorem MK(a:HitB):¬ltH a a:=by
 intro h;have h:ltOf cfT (unp a) (unp a)=true:=by rw[<-dN];exact h
 rw[mD]at h;grind
theorem ltH_of{a b:HitB}(f:¬ltH a b)(g:a≠b):ltH b a:=by
 cases e:ew b a;·exact absurd (ox (a:=a) (b:=b) e (by unfold leH;cases d:ew a b;rfl;exact absurd d f)) g
 ·exact e
theorem mem_layH{x y:HitB}:∀{D:List HitB},y∈layH x D↔y=x\/y∈D
 |[]=>by simp[layH]|t::r=>by
  unfold layH;split;·rw[List.mem_cons,mem_layH,List.mem_cons];grind
  grind
theorem zf{x:HitB}:∀{D:List HitB},D.Pairwise ltH->(layH x D).Pairwise ltH
 |[],_=>by simp[layH]|t::r,h=>by
  let⟨e,g⟩:=List.pairwise_cons.1 h;unfold layH;split
  ·rename_i b;refine List.pairwise_cons.2 ⟨λy a=>?_,zf g⟩;rcases mem_layH.1 a with rfl|a;·exact b
   grind
  ·rename_i b;split;·grind
   ·rename_i c;have d:=ltH_of b c;refine List.pairwise_cons.2 ⟨λy a=>?_,h⟩;rcases List.mem_cons.1 a with rfl|a;·grind
    ·exact Sr d (e y a)
theorem mem_layO{o:Option HitB}{y:HitB}{D:List HitB}:y∈layO D o↔o=some y\/y∈D:=by cases o with|none=>simp[layO]|some x=>simp[layO,mem_layH,eq_comm]
theorem IB{o:Option HitB}{D:List HitB}(h:D.Pairwise ltH):(layO D o).Pairwise ltH:=by cases o with|none=>exact h|some x=>exact zf h
theorem DK{x:HitB}:∀{D:List HitB},(layH x D).length<=D.length+1
 |[]=>by simp[layH]|t::r=>by have :=@DK x r;unfold layH;grind
theorem layO_len{o:Option HitB}{D:List HitB}:(layO D o).length<=D.length+1:=by cases o with|none=>simp[layO]|some x=>exact DK
theorem mem_refW{w:Path}{y:HitB}:∀{L:Path}{D:List HitB},y∈refW w L D↔y∈D\/∃s∈L,hitB w s=some y:=by intro L;induction L with|nil=>simp[refW]|cons s L b=>intro D;have e:refW w (s::L) D=refW w L (layO D (hitB w s)):=rfl;rw[e,b,mem_layO];grind
theorem Iz{w:Path}:∀{L:Path}{D:List HitB},D.Pairwise ltH->(refW w L D).Pairwise ltH:=by intro L;induction L with|nil=>exactλh=>h|cons s L a=>exactλh=>a (IB h)
theorem refW_len{w:Path}:∀{L:Path}{D:List HitB},(refW w L D).length<=D.length+L.length:=by intro L;induction L with|nil=>intro D;simp[refW]|cons s L c=>intro D;have e:refW w (s::L) D=refW w L (layO D (hitB w s)):=rfl;have b:=@layO_len (hitB w s) D;grind
theorem mem_refK{L:Path}{y:HitB}:∀{ws:List Path}{D:List HitB},y∈refK ws L D↔y∈D\/∃w∈ws,∃s∈L,hitB w s=some y:=by intro ws;induction ws with|nil=>simp[refK]|cons w ws b=>intro D;have e:refK (w::ws) L D=refK ws L (refW w L D):=rfl;rw[e,b,mem_refW];grind
theorem Jp{L:Path}:∀{ws:List Path}{D:List HitB},D.Pairwise ltH->(refK ws L D).Pairwise ltH:=by intro ws;induction ws with|nil=>exactλh=>h|cons s L a=>exactλh=>a (Iz h)
theorem hitB_some{w:Path}{s:List UInt8}{y:HitB}:hitB w s=some y↔DY w (prt s)/\y=(bI [46] ((prt s).take w.length),decide ((prt s).length=w.length)):=by unfold hitB;grind
theorem BV{w q u:Path}(a:q.length=w.length):DY w (q++u)↔DY w q:=by unfold DY;grind
section


variable{N:Tri}{H:Heap}{r:Nat}{L:Path}
theorem TrieN.kids(h:TrieN N H r L)(i:Nms L){q:Path}(g:q≠[]):qV N q=true↔∃s∈L,∃k u,prt s=q++k::u:=by
 constructor
 ·intro f;unfold qV at f;split at f;·rename_i d n;cases b:d.kids with|nil=>grind|cons x l=>let⟨a,c,_⟩:=h.lies.kid q d n x.1 x.2 (by grind);let⟨u,s,o,m⟩:=h.under c (by simp);grind
  grind
 ·rintro⟨s,j,k,u,e⟩;let⟨a,c⟩:=(h.has (q++[k])).2 (.inr ⟨u,s,j,by grind⟩);let⟨d,o,m⟩:=h.lies.up q k a c;unfold qV;grind
theorem Km(h:TrieN N H r L)(m:Nms L){w:Path}(I:w≠[])(y:HitB):(∃q∈vis N (wantB w) 21 [],xn N w q y)↔∃s∈L,hitB w s=some y:=by
 have F:=h.tiny m;have B:∀t x,N ([]++t)=some x->t.length<=21:=λt x v=>by have :=(F.deep t x (by grind)).1;omega
 have o:=xH (wn:=wantB w) h.lies 21 [] B;constructor
 ·rintro⟨q,z,g,A⟩;let⟨k,t,e,⟨x,v⟩,p⟩:=(o q).1 z;have e:q=k::t:=by grind
  subst e;have a:(k::t).length=w.length:=by have :=p t.length (by simp);simp[wantB,]at this;grind
  have c:DY w (k::t):=⟨by omega,λi hi=>by have :=p i (by omega);simp[wantB,]at this;grind⟩;rcases A with⟨E,rfl⟩|⟨D,rfl⟩;·let⟨s,b,e⟩:=(h.leaf _).1 E;refine⟨s,b,hitB_some.2 ⟨by grind,?_⟩⟩;grind
  ·let⟨s,b,n,u,e⟩:=(h.kids m (by simp)).1 D;refine⟨s,b,hitB_some.2 ⟨by rw[e];exact(BV a).2 c,?_⟩⟩;rw[e,<-a,List.take_left'];all_goals simp
 ·rintro⟨s,b,C⟩;obtain⟨g,rfl⟩:=hitB_some.1 C;have e:prt s=(prt s).take w.length++(prt s).drop w.length:=(List.take_append_drop _ _).symm;have a:((prt s).take w.length).length=w.length:=by rw[List.length_take];have :=g.1;omega
  generalize(prt s).take w.length=q at e a;have l:q≠[]:=λh=>by grind
  have c:DY w q:=by rw[e]at g;exact(BV a).1 g
  obtain⟨k,t,rfl⟩:∃k t,q=k::t:=by cases q with|nil=>grind|cons k t=>simp
  refine⟨k::t,(o _).2 ⟨k,t,by simp,(h.has _).2 (.inr ⟨_,s,b,e⟩),λj G=>?_⟩,by omega,?_⟩;·simp[wantB,];exact⟨by omega,c.2 j (by omega)⟩
  ·cases f:(prt s).drop w.length with|nil=>rw[f,List.append_nil]at e;refine .inl ⟨(h.leaf _).2 ⟨s,b,e⟩,?_⟩;grind|cons n u=>
    rw[f]at e;refine .inr ⟨(h.kids m l).2 ⟨s,b,n,u,e⟩,?_⟩;have :(prt s).length≠w.length:=by grind
    grind
theorem Mq(h:TrieN N H r L)(j:Nms L){ws:List Path}(i:∀w∈ws,w≠[]):Cr (findK N ws [])=refK ws L []:=by
 have g:=Jp (ws:=ws) (L:=L) (D:=[]) .nil;have k:=List.Pairwise.imp (λ{a b}(c:ltH a b)(e:a=b)=>MK a (by grind)) g;refine List.Perm.eq_of_pairwise (le:=leH) (λa b _ _=>ox) (oY _) (g.imp λ{a b}c=>FK c) ?_;refine(pK _).trans ((List.perm_ext_iff_of_nodup (HO .nil) k).2 λy=>?_);rw[mem_findK,mem_refK];refine or_congr Iff.rfl ⟨?_,?_⟩;·rintro⟨w,d,f⟩;exact⟨w,d,(Km h j (i w d) y).1 f⟩
 ·rintro⟨w,d,f⟩;exact⟨w,d,(Km h j (i w d) y).2 f⟩
theorem EU(h:TrieN N H r L)(b:Nms L){ws:List Path}(a:∀w∈ws,w≠[]):(findK N ws []).length=(refK ws L []).length:=by rw[<-Mq h b a];exact(pK _).length_eq.symm
end
end Ab
namespace Ab
theorem FM{k1 k2:SK}(A B:Path)(s:A.length<=900000000)(x:B.length<=900000000)(Q:Out->Prop)(o:∀e,look e 4=.p (.bool (aV A B))->Q (.ret,e,[]))(c:aV A B=decide (A.length<B.length)->∀e,look e 5=.p (.sl k1 1 (strs A))->look e 6=.p (.sl k2 1 (strs B))->Q (.ex 0,e,[])):∀(f i:Nat),i+f=A.length->i<=B.length->aV (A.drop i) (B.drop i)=aV A B->Wp Γ cP [(5,.p (.sl k1 1 (strs A))),(6,.p (.sl k2 1 (strs B))),(7,.p (.int .i64 (i:Int)))] [] Q:=by intro f;induction f with
 |zero=>
  intro i hi g a;have hi:i=A.length:=by omega
  subst hi;rw[aa (L:=cP) rfl];simp(disch:=first|exact Dq|fail)only[go_sem,cP];refine c ?_ _ rfl rfl;rw[<-a,List.drop_length];cases q:B.drop A.length with
  |nil=>have :=List.drop_eq_nil_iff.1 q;rw[decide_eq_false (by omega)];rfl|cons b t=>
   have :¬B.length<=A.length:=λh=>by grind
   rw[decide_eq_true (by omega)];rfl
 |succ f j=>
  intro i hi g a;have v:i<A.length:=by omega
  have d:A.drop i=A.getD i []::A.drop (i+1):=by simp[*]
  by_cases l:i=B.length
  ·have e:aV A B=decide (A.length<B.length):=by rw[<-a,d,l,List.drop_length,decide_eq_false (by omega)];rfl
   rw[aa (L:=cP) rfl];simp(disch:=first|exact Dq|fail)only[go_sem,cP];exact c e _ rfl rfl
  ·have r:i<B.length:=by omega
   have n:B.drop i=B.getD i []::B.drop (i+1):=by simp[*]
   rw[d,n]at a;by_cases u:A.getD i []=B.getD i []
   ·have m:bytesLess (A.getD i []) (B.getD i [])=false:=by
     rw[u];cases e:bytesLess (B.getD i []) (B.getD i []);·rfl
     ·exact absurd (less_iff.1 e) (List.lt_irrefl _)
    have q:decide (A.getD i []≠B.getD i [])=false:=by grind
    have k:(A.getD i []==B.getD i [])=true:=by grind
    simp only[aV,m,k,]at a;have j:=j (i+1) (by omega) (by omega) a;rw[aa (L:=cP) rfl];simp(disch:=first|exact Dq|fail)only[go_sem,cP,q];exact j
   ·have g:(A.getD i []==B.getD i [])=false:=by grind
    simp only[aV,g,Bool.false_and,Bool.or_false]at a;rw[aa (L:=cP) rfl];simp(disch:=first|exact Dq|fail)only[go_sem,cP,Dl];exact o _ (by rw[<-a];rfl)
theorem BL(a b:List UInt8)(p:a.length<=1000000)(n:b.length<=1000000):res Γ 419 [.str a,.str b]=some [.bool (aV (prt a) (prt b))]:=by
 have i:=bz 46 a;have d:=@count_le a 46;have g:=bz 46 b;have c:=@count_le b 46;have m:=na a (by omega);have l:=na b (by omega);refine ae (fn:=pV) rfl rfl ?_;simp(disch:=first|exact Dq|fail)only[go_sem,pV,m,l];refine FM (splitB 46 a) (splitB 46 b) (by omega) (by omega) _ (λe k=>?_) (λh e f j=>?_) (splitB 46 a).length 0 (by omega) (by omega) rfl;·simp(disch:=first|exact Dq|fail)only[go_sem,k]
 ·simp(disch:=first|exact Dq|fail)only[go_sem,f,j];grind
def hitC(h:HitB):List PV:=[.str h.1,.bool h.2]
def hitL(D:List HitB):List PV:=aggs (D.map hitC)
theorem eD{D:List HitB}:(hitL D).length=D.length:=by simp[hitL,aggs]
def jr:HitB:=([],false)
theorem Dg{D:List HitB}{i:Nat}(h:i<D.length):(D.map hitC).getD i []=[.str (D.getD i jr).1,.bool (D.getD i jr).2]:=by simp[List.getElem?_eq_getElem h,hitC]
theorem TU{x:HitB}:∀{D:List HitB}{i:Nat},i<=D.length->(∀j,j<i->ew (D.getD j jr) x=true)->(i=D.length\/ew (D.getD i jr) x=false)->layH x D=if D[i]?=some x then D else D.take i++x::D.drop i
 |[],i,h,_,_=>by simp[]at h;subst h;rfl|t::r,0,_,_,h=>by
  rcases h with h|h;·grind
  ·have h:ew t x=false:=by grind
   by_cases e:t=x;·subst e;simp[layH,h]
   ·simp[layH,h,]|t::r,i+1,hi,b,d=>by
  have f:ew t x=true:=by simpa using b 0 (by omega)
  have c:=@TU x r i (by grind) (λj g=>by grind) (by grind);simp[layH,];grind
theorem Pj(a:List UInt8)(c:Bool)(b:List UInt8)(lb:Bool):ew (a,c) (b,lb)=(aV (prt a) (prt b)||((a==b)&&(!c&&lb))):=by
 have e:(prt a==prt b)=(a==b):=by
  by_cases h:a=b;·grind
  ·have :=λe=>h (HB e);grind
 simp[ew,QA,e]
theorem Th{kk:SK}(D:List HitB)(x:HitB)(C:D.length<=900000)(w:∀h∈D,h.1.length<=1000)(A:x.1.length<=1000)(Q:Out->Prop)(s:∀i,i<=D.length->(∀j,j<i->ew (D.getD j jr) x=true)->(i=D.length\/ew (D.getD i jr) x=false)->∀e,look e 0=.p (.sl kk 2 (hitL D))->look e 3=.p (.ptr (hitC x))->look e 5=.p (.int .i64 (i:Int))->Q (.ex 0,e,[])):∀(f i:Nat),i+f=D.length->(∀j,j<i->ew (D.getD j jr) x=true)->Wp Γ fY [(0,.p (.sl kk 2 (hitL D))),(3,.p (.ptr (hitC x))),(5,.p (.int .i64 (i:Int)))] [] Q:=by intro f;induction f with
 |zero=>
  intro i hi r;have hi:i=D.length:=by omega
  subst hi;rw[aa (L:=fY) rfl];simp(disch:=first|exact Dq|fail)only[go_sem,fY,eD];exact s _ (Nat.le_refl _) r (.inl rfl) _ rfl rfl rfl|succ f d=>
  intro i hi r;have o:i<D.length:=by omega
  have v:=Dg o;have y:D.getD i jr∈D:=by grind
  have g:iaddrA [] 2 (.p (.sl kk 2 (hitL D))) (.p (.int .i64 (i:Int)))=some (.p (.ptr [.str (D.getD i jr).1,.bool (D.getD i jr).2])):=by rw[<-v];exact my (by omega) (by grind)
  have k:ew (D.getD i jr) x=true->∀j,j<i+1->ew (D.getD j jr) x=true:=λh j u=>by grind
  have d:=λh=>d (i+1) (by omega) (k h);have m:=λh=>s i (by omega) r (.inr h);let⟨b,lb⟩:=x;generalize D.getD i jr=a at*;let⟨a,t⟩:=a;have c:=BL a b (by grind) (by grind);rw[Pj]at d m;simp only[hitC]at*;cases n:aV (prt a) (prt b)
  ·rw[n]at c;simp only[n,Bool.false_or]at d m;by_cases B:a=b
   ·have l:(a==b)=true:=by grind
    have q:decide (a=b)=true:=by grind
    simp only[l,]at d m;cases t<;>cases lb<;>rw[aa (L:=fY) rfl]<;>simp(disch:=first|exact Dq|fail)only[go_sem,fY,eD,g,c,q]<;>first|exact d rfl|exact m rfl _ rfl rfl rfl
   ·have l:(a==b)=false:=by grind
    have q:decide (a=b)=false:=by grind
    simp only[l,Bool.false_and]at d m;rw[aa (L:=fY) rfl];simp(disch:=first|exact Dq|fail)only[go_sem,fY,eD,g,c,q];exact m trivial _ rfl rfl rfl
  ·rw[n]at c;simp[n,]at d;rw[aa (L:=fY) rfl];simp(disch:=first|exact Dq|fail)only[go_sem,fY,eD,g,c];exact d
theorem res_lay{kk:SK}(D:List HitB)(x:HitB)(B:D.length<=900000)(t:∀h∈D,h.1.length<=1000)(v:x.1.length<=1000):∃k2,res Γ 417 [.sl kk 2 (hitL D),.agg (hitC x)]=some [.sl k2 2 (hitL (layH x D))]:=by
 refine⟨if layH x D=D then kk else .any,?_⟩;refine ae (fn:=Dp) rfl rfl ?_;simp(disch:=first|exact Dq|fail)only[go_sem,Dp,hitC];refine Th D x B t v _ (λi w z u e o f n=>?_) D.length 0 (by omega) (λj E=>by omega);have b:=TU w z u;have q:gN 2 (.p (.sl kk 2 (hitL D))) none (some (.p (.int .i64 (i:Int))))=some (.p (.sl kk.cut 2 (hitL (D.take i)))):=by rw[Qa (by omega) (by rw[eD];omega)];simp[hitL,aggs,]
 have r:gN 2 (.p (.sl kk 2 (hitL D))) (some (.p (.int .i64 (i:Int)))) none=some (.p (.sl kk.cut 2 (hitL (D.drop i)))):=by rw[De (by omega) (by rw[eD];omega)];simp[hitL,aggs,]
 have y:(hitL (D.take i)).length=i:=by rw[eD,List.length_take];omega
 have A:(hitL (D.drop i)).length=D.length-i:=by rw[eD,List.length_drop]
 have s:∀j,hitL (D.take j)++[.agg [.str x.1,.bool x.2]]++hitL (D.drop j)=hitL (D.take j++x::D.drop j):=λj=>by simp[hitL,aggs,hitC]
 by_cases m:i<D.length
 ·have C:=Dg m;have a:iaddrA [] 2 (.p (.sl kk 2 (hitL D))) (.p (.int .i64 (i:Int)))=some (.p (.ptr [.str (D.getD i jr).1,.bool (D.getD i jr).2])):=by rw[<-C];exact my (by omega) (by grind)
  have d:D[i]?=some (D.getD i jr):=by grind
  rw[d]at b;by_cases l:D.getD i jr=x
  ·rw[l,if_pos rfl]at b;rw[b,if_pos rfl];rw[l]at a;have g:aN [2,1] (hitC x) (hitC x)=some true:=by simp[hitC,aN]
   simp[hitC]at g f a;simp(disch:=first|exact Dq|fail)only[go_sem,o,f,n,eD,a,g]
  ·rw[if_neg (λh=>l (Option.some.inj h))]at b;have c:layH x D≠D:=λh=>by grind
   rw[if_neg c,b];have g:aN [2,1] [.str (D.getD i jr).1,.bool (D.getD i jr).2] (hitC x)=some false:=by have :¬((D.getD i jr).1=x.1/\(D.getD i jr).2=x.2):=λh=>l (Prod.ext h.1 h.2);simp[hitC,aN,Option.map_some,Option.some.injEq];grind
   simp only[hitC]at g f;simp(disch:=first|exact Dq|fail)only[go_sem,o,f,n,eD,a,g,q,r];grind
 ·have hi:i=D.length:=by omega
  subst hi;have d:D[D.length]?=none:=by simp
  rw[d,if_neg (by simp)]at b;have c:layH x D≠D:=λh=>by grind
  rw[if_neg c,b];simp[hitC]at f;simp(disch:=first|exact Dq|fail)only[go_sem,o,f,n,eD,q,r];grind
end Ab
