import Derived.Test.YtbehhmffelnmfaaGreatDoorAbZ8
import Derived.Sort.KeysCollected
set_option linter.all false
namespace Ab
open Go (IntKind BinOp UnOp World Value Addr Obj undef maxLen Program TypeId Oper Op Operand Act Sem Next Result execOp Builtin Calls Ending Exit MapEntry DataW MemPlace Lit)
open Go.RowKit
theorem less_iff:∀{a b:List UInt8},bytesLess a b=true↔a<b
 |_,[]=>by simp[bytesLess,]|[],b::y=>by simp[bytesLess,]|a::x,b::y=>by rw[List.cons_lt_cons_iff,<-less_iff];simp[bytesLess]
theorem xw(s:List UInt8):∀l,(insB s l).Perm (s::l)
 |[]=>.refl _|t::r=>by
  unfold insB;split;·exact((xw s r).cons t).trans (.swap s t r)
  rfl
theorem tz:∀l,(nR l).Perm l|[]=>.refl _|s::r=>(xw s _).trans ((tz r).cons s)
theorem wO(s:List UInt8):∀{l:List (List UInt8)},l.Pairwise (·<=·)->(insB s l).Pairwise (·<=·)
 |[],_=>by simp[insB]|t::r,h=>by
  let⟨g,d⟩:=List.pairwise_cons.1 h;unfold insB;split
  ·rename_i b;refine List.pairwise_cons.2 ⟨λx a=>?_,wO s d⟩;rcases List.mem_cons.1 ((xw s r).mem_iff.1 a)with rfl|a;·exact List.le_of_lt (less_iff.1 b)
   grind
  ·rename_i b;have f:s<=t:=by have :=λe=>b (less_iff.2 e);grind
   refine List.pairwise_cons.2 ⟨λx a=>?_,h⟩;grind
theorem oI:∀l:List (List UInt8),(nR l).Pairwise (·<=·)|[]=>.nil|s::r=>wO s (oI r)
theorem sortB_eq{l e:List (List UInt8)}(k:l.Perm e):l.mergeSort (λx y=>decide (x<=y))=nR e:=by
 have f:∀a b c:List UInt8,Go.leB a b=true->Go.leB b c=true->Go.leB a c=true:=λa b c g j=>by grind
 have i:∀a b:List UInt8,(Go.leB a b||Go.leB b a)=true:=λa b=>by grind
 refine List.Perm.eq_of_pairwise (le:=λa b=>Go.leB a b=true) (λa b _ _ g j=>?_) (List.pairwise_mergeSort f i l) ?_ (((List.mergeSort_perm l Go.leB).trans k).trans (tz e).symm);·grind
 ·exact(oI e).imp λh=>by grind
structure KeysOk(P:Program)(f K:Nat)(k:TypeId):Prop where
 key:P.underlying k=some .string
 enters:Enters P f
 some:∀(bm b nn:Nat)(D0:DataW Unit)(R:Value->Option (DataW Unit×List MemPlace))(w:World),bm<w.heap.size->w.cell? ⟨bm,0,none⟩=some (.map (some b))->w.ownsMap P k R b nn D0->Go.Maps.size D0<=maxLen->Go.Maps.size D0*16<=140737488355328->Calls P f #[.func (.func K) #[] #[.pointer (some ⟨bm,0,none⟩)]] w λe w'=>∃(v:Value)(ss:List (List UInt8)),e=.returned v/\ss.Perm (Go.strKeys D0)/\w'.ownsRow w.heap.size k 1 v ss.length ((ss.mergeSort (λx y=>decide (x<=y))).map Go.Proofs.encStr)/\(v=.slice none 0 0↔ss=[])/\Below w.heap.size w w'
 none:∀(bm:Nat)(w:World),bm<w.heap.size->w.cell? ⟨bm,0,.none⟩=.some (.map .none)->Calls P f #[.func (.func K) #[] #[.pointer (.some ⟨bm,0,.none⟩)]] w λe w'=>e=.returned (.slice .none 0 0)/\Below w.heap.size w w'
theorem mb:∀{b:List (PV×AV)}{a:List (List UInt8)},dH b=some a->b.map (·.1)=a.map .str/\∀s∈a,s.length<=lim
 |[],a,h=>by simp[dH,]at h;grind|(k,v)::r,a,h=>by
  cases k<;>simp only[dH]at h<;>try cases h
  rename_i j;split at h;·rename_i e;obtain⟨f,d,rfl⟩:=Option.map_eq_some_iff.1 h;let⟨i,g⟩:=mb d;grind
  grind
abbrev anyR:Value->Option (DataW Unit×List MemPlace):=λ_=>some (.nil,[])
section


variable{Γ:Ctx}{N:Names}{P:Program}{w:World}{S:Nat->Prop}{μ:Nat->Value}{H:Heap}
theorem xr{ν:Nat->Nat}{k:TypeId}(j:P.underlying k=some .string):∀{f:List (PV×AV)}{l:List MapEntry}{b:List (List UInt8)},MapRel ν w S μ H f l->dH f=some b->l.map (Go.WideElems.rg P k anyR)=b.map (λs=>(Lit.string s,DataW.nil))/\∀x∈l,∃y,Go.WideElems.rd P k anyR x=some y
 |[],[],b,_,h=>by simp[dH,]at h;grind|(kk,v)::f,e::l,b,i,h=>by
  cases kk<;>simp only[dH]at h<;>try cases h
  rename_i c;split at h
  ·rename_i o;obtain⟨r,q,rfl⟩:=Option.map_eq_some_iff.1 h;let⟨p,t⟩:=xr j i.2.2.2 q;have a:Go.keyOf P k e.key=some (.string c):=by
    have m:=i.1;generalize e.key=z at m;cases m;have :(⟨c.toArray⟩:ByteArray).size<=maxLen:=by show c.toArray.size<=maxLen;rw[List.size_toArray];exact Nat.le_trans o (by decide)
    simp[Go.keyOf,Go.mapKey,j,this]
   have d:Go.WideElems.rd P k anyR e=some (.string c,.nil):=by simp[Go.WideElems.rd,a]
   refine⟨by simp[p,Go.WideElems.rg_of d],λx u=>?_⟩;grind
  grind|[],_::_,_,h,_=>h.elim|(_,_)::_,[],_,h,_=>h.elim
theorem JC{l:List (Lit×DataW Unit)}:Go.strKeys (DataW.map (l.foldr DataW.insert []))=(l.foldr DataW.insert []).map λp=>Go.strOf p.1:=rfl
theorem owns_of{n g:Nat}{k:TypeId}(s:P.underlying k=some .string)(x:Rel N.fn w S μ H){a:List (PV×AV)}{j:List (List UInt8)}(m:mapOf H n=some a)(f:dH a=some j)(t:a.length<=lim)(r:μ n=.pointer (some ⟨g,0,none⟩)):∃l:DataW Unit,w.ownsMap P k anyR g a.length l/\(Go.strKeys l).Perm j/\Go.Maps.size l=a.length:=by
 let⟨y,d,b,o,v,i,q⟩:=x.map_of m;rw[r]at o;cases o;let⟨p,u⟩:=xr s q f;have h:d.size=a.length:=by simpa using q.len
 have e:j.length=a.length:=by simpa using(congrArg List.length (mb f).1).symm
 refine⟨_,⟨d,b,v,⟨by rw[h];exact Nat.le_trans t (by decide),i,u⟩,by omega,rfl⟩,?_,?_⟩;·rw[p,JC];refine((Go.WideShapes.sorted_perm _).map _).trans ?_;rw[List.map_map];simp[Function.comp_def,Go.strOf]
 ·show(List.foldr DataW.insert [] _).length=_;rw[(Go.WideShapes.sorted_perm _).length_eq,p,List.length_map,e]
theorem QI{ν:Nat->Nat}{a:Nat}{k:TypeId}{v:Value}{l:List (List UInt8)}{f:World}(n:f.ownsRow a k 1 v l.length (l.map Go.Proofs.encStr))(F:v=.slice none 0 0↔l=[])(K:l.length<=lim){S:Nat->Prop}(C:∀g,S g->g<a)(A:a<=f.heap.size):∃w:Nat->Prop,(∀g,S g->w g)/\(∀g,w g->g<f.heap.size)/\(∀g,w g->S g\/a<=g)/\RelP ν f w (rowS l) v:=by cases l with
 |nil=>obtain rfl:=F.2 rfl;exact⟨S,λ_ h=>h,λg h=>Nat.lt_of_lt_of_le (C g h) A,λ_ h=>.inl h,.sl .nil 1 [] none 0 (λ_ _=>undef) (Nat.le_refl _) (Nat.zero_le _) (by simp) (by simp) (by simp) (by simp) (by simp) (by simp)⟩|cons s r=>
  obtain⟨M,I|⟨g,cap,y,rfl,N,u,J,B,O,E⟩⟩:=n;·grind
  refine⟨λx=>S x\/x=g,λ_ h=>.inl h,λx h=>?_,λx h=>?_,?_⟩;·grind
  ·grind
  have q:((s::r).map PV.str).length=(s::r).length:=by simp
  have o:∀(i:Nat)t,(s::r)[i]?=some t->f.cell? ⟨g,i,none⟩=some (.string ⟨t.toArray⟩):=by
   intro i t hi;have :y[i]?=some (.string ⟨t.toArray⟩):=by have L:=congrArg (λl=>l[i]?) E;grind
   simp[World.cell?,u,this]
  have b:RelP ν f (λx=>S x\/x=g) (.sl .any 1 ((s::r).map .str)) (.slice (some ⟨g,0,none⟩) ((s::r).map PV.str).length cap):=by
   refine .sl .any 1 ((s::r).map .str) (some ⟨g,0,none⟩) cap (λi _=>.string ⟨((s::r).getD i []).toArray⟩) (by grind) B (λx d=>?_) (by simp) (by simp) (λ_=>⟨_,rfl,.inr rfl⟩) (λG D i x j c d m=>?_) (λi x j c d m=>?_);·obtain⟨t,_,rfl⟩:=List.mem_map.1 d;exact⟨rfl,λc u=>by simp[PV.cells,]at u;subst u;rfl⟩
   ·cases D;rw[List.getElem?_map,Option.map_eq_some_iff]at d;obtain⟨t,z,rfl⟩:=d;match j,m with
    |0,_=>
     have :=o i t z;have e:(s::r).getD i []=t:=by grind
     rw[e,<-this];congr 1;by_cases hi:i=0<;>simp[Addr.add,hi]
   ·rw[List.getElem?_map,Option.map_eq_some_iff]at d;obtain⟨t,z,rfl⟩:=d;match j,m with
    |0,m=>
     simp[PV.cells,]at m;subst m;have e:(s::r).getD i []=t:=by grind
     rw[e];exact .str t
  rw[q]at b;exact b
theorem Ss{f:Nat}{Q:List Nat}{k:TypeId}(h:∀K∈Q,KeysOk P (N.fn f) (N.fn K) k):RS Γ N P f (Pn Q):=by
 intro args H rs a w S μ us E Z Y;unfold Pn at a;split at a;rotate_left;·grind
 rename_i kf b;split at a;rotate_left;·grind
 rename_i hk;have h:=h kf (List.contains_iff_mem.1 hk);let⟨cs,hb,a⟩:=Option.bind_eq_some_iff.1 a;match us,Y with|[u],⟨hu,_⟩=>cases hu with|clo _ _ us q1 q2 q3=>
 have G:=q3 0 (.bx b 0) rfl;let⟨z,hgb,hbl,n⟩:=G.bx_inv;have U:=jo hb;have n:=n _ U;have M:us=#[.pointer (some ⟨z,0,none⟩)]:=by
  have :us.size=1:=q1;obtain⟨W,rfl⟩:∃W,us=#[W]:=by refine⟨us[0],Array.ext (by grind) λi h1 p=>?_⟩;grind
  simp_all
 subst M;let⟨g',T,l⟩:=E.blk b _ U;rw[n]at T;cases T;have q:z<w.heap.size:=by grind
 have r:∀c,cs=[c]->∃x,w.cell? ⟨z,0,none⟩=some x/\RelV N.fn w S μ H c x:=by
  rintro c rfl;rcases l with⟨o,t,p,h3,h4,h5⟩|⟨s,pos,p,_⟩|⟨F,o,L,p,_⟩
  ·have h6:0<o.size:=by grind
   refine⟨o[0],by simp[World.cell?,p,],?_⟩;simpa[h6]using h5 0 c rfl
  ·simp[bX]at p
  ·simp[ak]at p
 unfold keysV at a;split at a
 ·rename_i id;let⟨F,y,a⟩:=Option.bind_eq_some_iff.1 a;let⟨D,A,a⟩:=Option.bind_eq_some_iff.1 a;simp[]at a;obtain⟨J,rfl⟩:=a;let⟨x,j,m⟩:=r _ rfl;obtain⟨g,rfl,_,a⟩:=m.mp_inv;have a:=a _ (eZ y);let⟨D0,d1,V,X⟩:=owns_of h.key E y A J a;have R:D.length=F.length:=by simpa using(congrArg List.length (mb A).1).symm
  refine .inl ⟨h.enters _ _,(h.some z g F.length D0 anyR w q j d1 (by rw[X];exact Nat.le_trans J (by decide)) (by rw[X];exact Nat.le_trans (Nat.mul_le_mul_right 16 J) (by decide))).mono ?_⟩;rintro e w'⟨v,zs,rfl,O,I,z3,d⟩;rw[sortB_eq (O.trans V)]at I;have zl:=(O.trans V).length_eq;have sl:=(tz D).length_eq;rw[show zs.length=(nR D).length by omega]at I;have B:v=.slice none 0 0↔nR D=[]:=by grind
  let⟨S',s1,s2,s3,s4⟩:=QI (ν:=N.fn) I B (by omega) E.lt d.size;exact⟨_,rfl,[v],S',rfl,⟨d.os,d.tape,d.output,d.size,λg a=>d.block g a⟩,s1,s2,s3,s4,trivial⟩
 ·simp[]at a;subst a;let⟨x,j,m⟩:=r _ rfl;have :x=.map none:=by have :=m.p_inv;cases this;rfl
  subst this;refine .inl ⟨h.enters _ _,(h.none z w q j).mono ?_⟩;rintro e w'⟨rfl,d⟩;exact⟨_,rfl,[.slice none 0 0],S,rfl,⟨d.os,d.tape,d.output,d.size,λg a=>d.block g a⟩,λ_ h=>h,λg a=>Nat.lt_of_lt_of_le (E.lt g a) d.size,λ_ h=>.inl h,.sl .nil 1 [] none 0 (λ_ _=>undef) (Nat.le_refl _) (Nat.zero_le _) (by simp) (by simp) (by simp) (by simp) (by simp) (by simp),trivial⟩
 grind
end
end Ab
