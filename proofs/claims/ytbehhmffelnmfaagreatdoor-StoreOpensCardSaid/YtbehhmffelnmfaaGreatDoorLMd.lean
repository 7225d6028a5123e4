import Derived.Test.YtbehhmffelnmfaaGreatDoorLTrie10
import Derived.Test.YtbehhmffelnmfaaGreatDoorAbW2
import Derived.Test.YtbehhmffelnmfaaGreatDoorCode
import Derived.Test.YtbehhmffelnmfaaGreatDoorPGlob
set_option linter.all false
namespace Ab
open Go (IntKind)
abbrev prt(s:List UInt8):Path:=splitB 46 s
theorem RJ(s:List UInt8):∀a,bp a s=match prt s with|[]=>[a.reverse]|h::t=>(a.reverse++h)::t:=by induction s with|nil=>intro a;simp[bp,splitB]|cons c r d=>
  intro a;simp[bp,splitB];by_cases b:c=46;·subst b;have e:=d [];simp[];rw[e];have :=gG r;grind
  grind
theorem QA(s:List UInt8):bp [] s=prt s:=by rw[RJ];cases h:prt s with|nil=>exact absurd h (gG s)|cons a t=>simp
theorem Kw:∀q:Path,Hx q=bI [46] q
 |[]=>rfl|[p]=>rfl|p::q::r=>by have b:=Kw (q::r);simp only[Hx,bI,b];simp
theorem mH(s:List UInt8):bI [46] (prt s)=s:=by have :=xj [] s;rw[QA,Kw]at this;grind
theorem HB{a b:List UInt8}(h:prt a=prt b):a=b:=by rw[<-mH a,<-mH b,h]
structure Nms(L:Path):Prop where
 sorted:L.Pairwise λa b=>prt a<prt b
 ok:∀s∈L,nameB s=true
 len:L.length<=1000
structure TrieN(N:Tri)(H:Heap)(r:Nat)(L:Path):Prop where
 lies:Lies H N r L.length
 pruned:Pruned N
 leaf:∀q,bZ N q=true↔∃s∈L,prt s=q
theorem bA{s:List UInt8}(h:nameB s=true):1<=s.length/\s.length<=200/\(prt s).length<=20/\∀p∈prt s,p≠[]/\∀c∈p,il c=true:=by unfold nameB at h;simp[]at h;exact⟨h.1.1.1,h.1.1.2,h.1.2,λp a=>partB_iff.1 (h.2 p a)⟩
theorem TrieN.keep{N:Tri}{H a:Heap}{r:Nat}{L:Path}(h:TrieN N H r L)(b:∀i,Foot N i->a[i]?=H[i]?):TrieN N a r L:=⟨h.lies.keep b,h.pruned,h.leaf⟩
theorem TrieN.ext{N:Tri}{H a:Heap}{r:Nat}{L:Path}(h:TrieN N H r L)(b:Ext0 H a):TrieN N a r L:=h.keep λi hi=>b.2 i (h.lies.foot_lt hi)
theorem Ki{c d:Type}{f:c->List d}{n:Nat}(b:∀a,(f a).length=n):∀l:List c,(l.flatMap f).length=l.length*n|[]=>by simp|a::l=>by rw[List.flatMap_cons,List.length_append,b,Ki b l,List.length_cons,Nat.succ_mul,Nat.add_comm]
section


variable{N:Tri}{H:Heap}{r:Nat}{L:Path}
theorem TrieN.under(h:TrieN N H r L){q:Path}{b:Nd}(c:N q=some b)(a:q≠[]):∃u,∃s∈L,prt s=q++u:=by let⟨u,d⟩:=h.pruned q a ⟨b,c⟩;let⟨s,e,f⟩:=(h.leaf _).1 d;grind
theorem zI{N:Tri}{q:Path}(h:bZ N q=true):∃a,N q=some a:=by unfold bZ at h;grind
theorem TrieN.has(h:TrieN N H r L)(q:Path):(∃x,N q=some x)↔q=[]\/∃u,∃s∈L,prt s=q++u:=by
 constructor
 ·rintro⟨b,c⟩;by_cases e:q=[];·grind
  ·exact .inr (h.under c e)
 ·rintro(rfl|⟨u,s,d,e⟩);·let⟨b,a,_⟩:=h.lies.root;grind
  ·let⟨b,a⟩:=zI ((h.leaf _).2 ⟨s,d,rfl⟩);rw[e]at a;exact h.lies.pre u q b a
theorem TrieN.tiny(h:TrieN N H r L)(g:Nms L):Tiny N where
 kids q c a:=by
  have f:∀k∈c.kids.map (·.1),∃u,∃s∈L,prt s=q++k::u:=λk d=>by obtain⟨x,m,rfl⟩:=List.mem_map.1 d;let⟨n,l,_⟩:=h.lies.kid q c a x.1 x.2 m;let⟨u,s,b,j⟩:=h.under l (by simp);grind
  constructor
  ·have l:=List.Nodup.length_le_of_subset (h.lies.nodup q c a) (l₂:=L.map λs=>(prt s).getD q.length []) λk d=>by grind
   rw[List.length_map,List.length_map]at l;have :=g.len;omega
  ·intro k d;let⟨u,s,b,j⟩:=f k.1 (List.mem_map.2 ⟨k,d,rfl⟩);have i:k.1∈splitB 46 s:=by grind
   have v:=bD i;have t:=(bA (g.ok s b)).2.1;omega
 deep q c a:=by
  by_cases e:q=[];·subst e;exact⟨by simp,by simp[bI]⟩
  ·let⟨u,s,b,j⟩:=h.under a e;let⟨_,p,o,_⟩:=bA (g.ok s b);have i:=po [46] (prt s) q.length;rw[mH,j]at i;grind
theorem TrieN.vis_len(h:TrieN N H r L)(c:Nms L)(wn:Nat->List UInt8->Bool):(vis N wn 21 []).length<=100000:=by
 have b:=h.tiny c;have d:∀t x,N ([]++t)=some x->t.length<=21:=λt x a=>by have :=(b.deep t x (by grind)).1;omega
 have e:=oo (BR (wn:=wn) h.lies 21 [] d);have f:=List.Nodup.length_le_of_subset e (l₂:=L.flatMap λs=>(List.range 21).map λi=>(prt s).take i) λp j=>by obtain⟨k,t,rfl,⟨x,a⟩,_⟩:=(xH h.lies 21 [] d p).1 j;let⟨u,s,g,m⟩:=h.under a (by simp);have l:=(b.deep _ x a).1;refine List.mem_flatMap.2 ⟨s,g,List.mem_map.2 ⟨([]++k::t).length,List.mem_range.2 (by omega),?_⟩⟩;grind
 rw[Ki (n:=21) (λs=>by simp)]at f;have :=c.len;omega
end
def ltS(a b:List UInt8):Prop:=prt a<prt b
theorem SS{A B:List Path}(b:tI A)(c:tI B)(h:∀x,x∈A↔x∈B):A=B:=List.Perm.eq_of_pairwise (le:=(·<·)) (λa f _ _ d e=>absurd (List.lt_trans d e) (List.lt_irrefl a)) b c ((List.perm_ext_iff_of_nodup (oo b) (oo c)).2 h)
section


variable{N:Tri}{H:Heap}{r:Nat}{L:Path}
theorem TrieN.names(h:TrieN N H r L)(a:Nms L):CT N=L:=by
 have d:=h.tiny a;have c:∀t x,N ([]++t)=some x->t.length<=21:=λt x j=>by have :=(d.deep t x (by grind)).1;omega
 rw[OY];have e:(vis N (λ_ _=>true) 21 []).filter (bZ N)=L.map prt:=by
  refine SS ((BR h.lies 21 [] c).filter _) (by unfold tI;rw[List.pairwise_map];exact a.sorted) λp=>?_;rw[List.mem_filter,h.leaf,List.mem_map,xH h.lies 21 [] c];constructor;·simp
  ·rintro⟨s,b,rfl⟩;let⟨g,i⟩:=zI ((h.leaf _).2 ⟨s,b,rfl⟩);refine⟨?_,s,b,rfl⟩;cases f:prt s with|nil=>exact absurd f (gG s)|cons k t=>grind
 rw[e,List.map_map];have :(bI [46]∘prt)=id:=by funext s;exact mH s
 simp[*]
theorem op_names(h:TrieN N H r L)(c:Nms L):∃v b,resW Γ 397 [.bx r 0] H=some ([v],b)/\RowV b v L/\Ext0 H b:=by have :=Nx h.lies (h.tiny c) (by have :=h.vis_len c (λ_ _=>true);omega);rw[h.names c]at this;grind
theorem Kk(h:TrieN N H r L)(s:List UInt8):bZ N (prt s)=decide (s∈L):=by
 rw[Bool.eq_iff_iff,h.leaf,decide_eq_true_iff];constructor;·rintro⟨t,a,e⟩;rw[<-HB e];grind
 grind
theorem op_has(h:TrieN N H r L)(s:List UInt8)(b:s.length<=1000):resW Γ 392 [.bx r 0,.p (.str s)] H=some ([.p (.bool (decide (s∈L)))],H):=by rw[<-Kk h];exact resW_has h.lies s b
def insS(s:List UInt8):Path->Path|[]=>[s]|t::l=>if aV (prt t) (prt s)=true then t::insS s l else s::t::l
theorem mem_insS{s x:List UInt8}:∀{L:Path},x∈insS s L↔x=s\/x∈L
 |[]=>by simp[insS]|t::l=>by
  unfold insS;split;·rw[List.mem_cons,mem_insS,List.mem_cons];grind
  simp
theorem vW{s:List UInt8}:∀{L:Path},(insS s L).length=L.length+1
 |[]=>rfl|t::l=>by
  unfold insS;split;·rw[List.length_cons,vW,List.length_cons]
  ·rfl
theorem wz{s:List UInt8}:∀{L:Path},s∉L->L.Pairwise ltS->(insS s L).Pairwise ltS
 |[],_,_=>by simp[insS]|t::l,f,h=>by
  let⟨i,j⟩:=List.pairwise_cons.1 h;unfold insS;split
  ·rename_i a;refine List.pairwise_cons.2 ⟨λx b=>?_,wz (λh=>f (List.mem_cons_of_mem _ h)) j⟩;rcases mem_insS.1 b with rfl|b;·exact partsLess_iff.1 a
   grind
  ·rename_i a;have d:ltS s t:=by
    have g:=λh=>a (partsLess_iff.2 h);rcases Classical.em (prt s<prt t)with c|c;·exact c
    ·have :=HB (List.le_antisymm g c);grind
   refine List.pairwise_cons.2 ⟨λx b=>?_,h⟩;rcases List.mem_cons.1 b with rfl|b;·grind
   ·exact List.lt_trans d (i x b)
def addS(s:List UInt8)(L:Path):Path:=if s∈L then L else insS s L
theorem mem_addS{s x:List UInt8}{L:Path}:x∈addS s L↔x=s\/x∈L:=by
 unfold addS;split;·grind
 ·exact mem_insS
theorem sL{s:List UInt8}{L:Path}(b:Nms L)(e:nameB s=true)(d:L.length<1000):Nms (addS s L):=by
 unfold addS;split;·grind
 ·rename_i h;refine⟨wz h b.sorted,λx a=>?_,by rw[vW];omega⟩;rcases mem_insS.1 a with rfl|a;·grind
  ·exact b.ok x a
theorem sU{s:List UInt8}{L:Path}:(addS s L).length=if s∈L then L.length else L.length+1:=by
 unfold addS;split;·rfl
 ·exact vW
theorem zY(h:TrieN N H r L)(x:Nms L)(s:List UInt8)(w:s.length<=1000)(i:nameB s=true):∃c a,resW Γ 401 [.bx r 0,.p (.str s)] H=some ([.p (.int .i64 0)],a)/\TrieN c a r (addS s L)/\Chg N c H a:=by
 let⟨c,a,k,m,l,n,g⟩:=HC h.lies s w i (by have :=x.len;omega);refine⟨c,a,k,⟨?_,λq b d=>?_,λq=>?_⟩,g⟩;·rw[Kk h]at m;rw[sU];grind
 ·rcases(l q).1 d with d|⟨j,rfl⟩;·let⟨u,y⟩:=h.pruned q b d;grind
  ·refine⟨(prt s).drop j,?_⟩;simp[*]
 ·rw[n];constructor
  ·intro b;split at b;·rename_i e;exact⟨s,mem_addS.2 (.inl rfl),e.symm⟩
   ·let⟨t,o,v⟩:=(h.leaf q).1 b;exact⟨t,mem_addS.2 (.inr o),v⟩
  ·rintro⟨t,f,rfl⟩;rcases mem_addS.1 f with rfl|f;·simp
   ·split;·rfl
    ·exact(h.leaf _).2 ⟨t,f,rfl⟩
end
theorem DW:aw Γ 401=true:=rfl
theorem still395:aw Γ 395=true:=rfl
def tri0(k:Nat):Tri:=λq=>if q=[]then some ⟨k+1,k,false,[]⟩else none
theorem gn{k:Nat}{q:Path}{a:Nd}(h:tri0 k q=some a):q=[]/\a=⟨k+1,k,false,[]⟩:=by unfold tri0 at h;grind
theorem trie0(H:Heap):TrieN (tri0 H.length) (H++[Blk.box (ak [])]++[Blk.box [.mp H.length,.p (.int .i64 0)]]) (H.length+1) []where
 lies:={
  root:=⟨_,rfl,rfl⟩
  box:=λq c a=>by obtain⟨rfl,rfl⟩:=gn a;rw[List.append_assoc,List.getElem?_append_right (by simp)];simp[mark]
  map:=λq c a=>by obtain⟨rfl,rfl⟩:=gn a;rw[List.append_assoc,List.getElem?_append_right (by simp)];simp[mI]
  kid:=λq c a k b i=>by obtain⟨rfl,rfl⟩:=gn a;grind
  up:=λq k c a=>by let⟨e,_⟩:=gn a;simp_all
  nodup:=λq c a=>by obtain⟨rfl,rfl⟩:=gn a;simp
  injb:=λp q c f d a _=>by obtain⟨rfl,_⟩:=gn d;obtain⟨rfl,_⟩:=gn a;rfl
  injm:=λp q c f d a _=>by obtain⟨rfl,_⟩:=gn d;obtain⟨rfl,_⟩:=gn a;rfl
  sep:=λp q c f d a=>by obtain⟨rfl,rfl⟩:=gn d;obtain⟨rfl,rfl⟩:=gn a;simp};pruned q a:=by rintro⟨x,h⟩;exact absurd (gn h).1 a
 leaf q:=by
  simp[bZ];split;·rename_i c e;obtain⟨_,rfl⟩:=gn e;simp
  simp
theorem SC{k i:Nat}(h:Foot (tri0 k) i):k<=i:=by let⟨q,c,a,d⟩:=h;obtain⟨_,rfl⟩:=gn a;grind
def addN(L:Path)(s:List UInt8):Path:=if nameB s=true then addS s L else L
theorem Na{N:Tri}{H:Heap}{r:Nat}{L:Path}(h:TrieN N H r L)(f:Nms L)(s:List UInt8)(d:s.length<=1000):∃c a e,resW Γ 401 [.bx r 0,.p (.str s)] H=some ([.p (.int .i64 e)],a)/\e=(if nameB s=true then 0 else 14)/\TrieN c a r (addN L s)/\Chg N c H a:=by cases b:nameB s with
 |true=>let⟨c,a,i,g,j⟩:=zY h f s d b;exact⟨c,a,0,i,rfl,by simpa[addN,b]using g,j⟩|false=>exact⟨N,H,14,Eg s d ⟨r,rfl⟩ b,rfl,by simpa[addN,b]using h,.refl _ _⟩
theorem addN_nms{s:List UInt8}{L:Path}(c:Nms L)(b:L.length<1000):Nms (addN L s):=by
 unfold addN;split;·exact sL c ‹_› b
 grind
theorem addN_len{s:List UInt8}{L:Path}:(addN L s).length<=L.length+1:=by
 unfold addN;split;·rw[sU];grind
 simp
structure Made(H0:Heap)(r:Nat)(L:Path)(H:Heap):Prop where
 at_:∃N,TrieN N H r L/\∀i,Foot N i->H0.length<=i
 old:∀i,i<H0.length->H[i]?=H0[i]?
 len:H0.length<=H.length
 nms:Nms L
theorem Made.add{H0 H:Heap}{r:Nat}{L:Path}(h:Made H0 r L H)(s:List UInt8)(g:s.length<=1000)(f:L.length<1000):∃a e,resW Γ 401 [.bx r 0,.p (.str s)] H=some ([.p (.int .i64 e)],a)/\Made H0 r (addN L s) a:=by let⟨N,c,n⟩:=h.at_;let⟨k,a,e,d,_,j,b⟩:=Na c h.nms s g;have l:=h.len;exact⟨a,e,d,⟨⟨k,j,λi hi=>by rcases b.2.2 i hi with h|h;all_goals grind⟩,λi hi=>(b.2.1 i (by omega) (λm=>by grind)).trans (h.old i hi),Nat.le_trans l b.1,addN_nms h.nms f⟩⟩
theorem Rb{kk:SK}{H0:Heap}{r:Nat}(l:List (List UInt8))(u:l.length<=900)(o:∀s∈l,s.length<=1000)(Q:Out->Prop)(q:∀e c,look e 3=.bx r 0->Made H0 r (l.foldl addN []) c->Q (.ex 0,e,c)):∀(f i:Nat)(H:Heap)(L:Path),i+f=l.length->Made H0 r L H->L.length<=i->(l.drop i).foldl addN L=l.foldl addN []->Wp Γ jz [(3,.bx r 0),(10,.p (.sl kk 1 (strs l))),(11,.p (.int .i64 (l.length:Int))),(12,.p (.int .i64 (i:Int)))] H Q:=by intro f;induction f with
 |zero=>
  intro i H L hi j d b;have hi:i=l.length:=by omega
  subst hi;rw[List.drop_length,List.foldl_nil]at b;subst b;rw[aa (L:=jz) rfl];simp(disch:=first|exact Dq|fail)only[go_sem,jz];exact q _ _ rfl j|succ f g=>
  intro i H L hi j d b;have k:i<l.length:=by omega
  have a:l.drop i=l.getD i []::l.drop (i+1):=by simp[*]
  have h:=o (l.getD i []) (by grind);rw[a,List.foldl_cons]at b;let⟨c,e,n,m⟩:=j.add (l.getD i []) h (by omega);have g:=g (i+1) c _ (by omega) m (by have :=@addN_len (l.getD i []) L;omega) b;rw[aa (L:=jz) rfl];simp(disch:=first|exact Dq|fail)only[go_sem,jz,DW,n];exact g
theorem made0(H:Heap):Made H (H.length+1) [] (H++[Blk.box (ak [])]++[Blk.box [.mp H.length,.p (.int .i64 0)]]):=⟨⟨_,trie0 H,λi hi=>SC hi⟩,λi hi=>by grind,by simp,⟨.nil,by simp,by simp⟩⟩
theorem op_new{kk:SK}{H:Heap}(l:List (List UInt8))(d:l.length<=900)(g:∀s∈l,s.length<=1000):∃a,resW Γ 395 [.p (.sl kk 1 (strs l))] H=some ([.bx (H.length+1) 0],a)/\Made H (H.length+1) (l.foldl addN []) a:=by
 have h:∃rs a,resW Γ 395 [.p (.sl kk 1 (strs l))] H=some (rs,a)/\rs=[.bx (H.length+1) 0]/\Made H (H.length+1) (l.foldl addN []) a:=by refine ci (fn:=vI) (K:=λrs a=>rs=[.bx (H.length+1) 0]/\Made H (H.length+1) (l.foldl addN []) a) rfl rfl ?_;simp(disch:=first|exact Dq|fail)only[go_sem,vI,len2];have c:=made0 H;rw[List.append_assoc]at c;refine Rb l d g _ (λe a f i=>?_) l.length 0 _ [] (by omega) c (by simp) rfl;simp(disch:=first|exact Dq|fail)only[go_sem,f];grind
 grind
theorem aK{l:List UInt8}:(ao l).length=l.length:=by simp[ao]
theorem tE{l:List UInt8}{n:Nat}:(ao l).take n=ao (l.take n):=by simp[ao,]
theorem tH{l:List UInt8}{n:Nat}:(ao l).drop n=ao (l.drop n):=by simp[ao,]
theorem wU{l m:List UInt8}:ao l++ao m=ao (l++m):=by simp[ao]
theorem tn:∀l:List UInt8,bytesIn (ao l)=some l
 |[]=>rfl|b::l=>by have :=tn l;simp[ao,bytesIn]at this⊢;simp[*]
theorem oz:∀l:List UInt8,xA (ao l)=some l
 |[]=>rfl|b::l=>by have :=oz l;have h:=b.toNat_lt;simp only[ao,List.map_cons,xA]at this⊢;rw[this,if_pos ⟨by omega,by omega⟩];simp
structure Since(K:Nat->Prop)(H0 H:Heap):Prop where
 len:H0.length<=H.length
 box:∀(i:Nat)cs,H0[i]?=some (.box cs)->¬K i->H[i]?=some (.box cs)row:∀(i:Nat)f sz xs,H0[i]?=some (.row f sz xs)->∃f',H[i]?=some (.row f' sz xs)/\(sz≠1->f'=f)
theorem Since.refl{K:Nat->Prop}(H:Heap):Since K H H:=⟨Nat.le_refl _,λ_ _ h _=>h,λ_ f _ _ h=>⟨f,h,λ_=>rfl⟩⟩
theorem Since.trans{K:Nat->Prop}{A B C:Heap}(h:Since K A B)(k:Since K B C):Since K A C where
 len:=Nat.le_trans h.len k.len;box i cs hi a:=k.box i cs (h.box i cs hi a) a;row i f sz xs hi:=by let⟨c,b,d⟩:=h.row i f sz xs hi;let⟨e,g,j⟩:=k.row i c sz xs b;grind
theorem Since.mono{K L:Nat->Prop}{A B:Heap}(h:Since K A B)(a:∀i,K i->L i):Since L A B:=⟨h.len,λi cs hi b=>h.box i cs hi λe=>b (a i e),h.row⟩
theorem Since.ext{K:Nat->Prop}{A B:Heap}(h:Ext0 A B):Since K A B:=⟨h.1,λi c hi _=>(h.2 i (List.getElem?_eq_some_iff.1 hi).1).trans hi,λi f b a hi=>⟨f,(h.2 i (List.getElem?_eq_some_iff.1 hi).1).trans hi,λ_=>rfl⟩⟩
theorem Since.app{K:Nat->Prop}(H G:Heap):Since K H (H++G):=.ext (Ext0.app H G)
theorem Since.set{K:Nat->Prop}{H0 H:Heap}(h:Since K H0 H){i:Nat}{b:Blk}(k:K i/\(∃cs,H[i]?=some (.box cs))\/H0.length<=i):Since K H0 (H.set i b)where
 len:=by rw[List.length_set];exact h.len
 box j cs a c:=by
  rw[List.getElem?_set_ne (λe=>?_)];·exact h.box j cs a c
  grind
 row j f sz xs a:=by let⟨d,g,l⟩:=h.row j f sz xs a;grind
theorem Since.frz{K:Nat->Prop}{H0 H:Heap}(h:Since K H0 H){i:Nat}{f g:Bool}{xs:List PV}(hi:H[i]?=some (.row f 1 xs)):Since K H0 (H.set i (.row g 1 xs))where
 len:=by rw[List.length_set];exact h.len
 box j cs a b:=by have e:=h.box j cs a b;grind
 row j f sz ys a:=by let⟨c,d,k⟩:=h.row j f sz ys a;grind
structure SinceB(K:Nat->Prop)(H0 H:Heap):Prop where
 len:H0.length<=H.length
 box:∀(i:Nat)cs,H0[i]?=some (.box cs)->¬K i->H[i]?=some (.box cs)row:∀(i:Nat)f xs,H0[i]?=some (.row f 1 xs)->H[i]?=some (.row f 1 xs)
theorem SinceB.refl{K:Nat->Prop}(H:Heap):SinceB K H H:=⟨Nat.le_refl _,λ_ _ h _=>h,λ_ _ _ h=>h⟩
theorem SinceB.app{K:Nat->Prop}(H G:Heap):SinceB K H (H++G):=⟨by simp,λi cs hi _=>(List.getElem?_append_left (List.getElem?_eq_some_iff.1 hi).1).trans hi,λi f xs hi=>(List.getElem?_append_left (List.getElem?_eq_some_iff.1 hi).1).trans hi⟩
theorem SinceB.trans{K:Nat->Prop}{A B C:Heap}(h:SinceB K A B)(k:SinceB K B C):SinceB K A C where len:=Nat.le_trans h.len k.len;box i cs hi a:=k.box i cs (h.box i cs hi a) a;row i f xs hi:=k.row i f xs (h.row i f xs hi)
theorem SinceB.set{K:Nat->Prop}{H0 H:Heap}(h:SinceB K H0 H){i:Nat}{b:Blk}(g:K i/\(∃cs,H[i]?=some (.box cs))\/∃f xs,H[i]?=some (.row f 4 xs)):SinceB K H0 (H.set i b)where
 len:=by rw[List.length_set];exact h.len
 box j cs a c:=by have d:=h.box j cs a c;grind
 row j f xs a:=by have e:=h.row j f xs a;grind
theorem SinceB.mono{K L:Nat->Prop}{A B:Heap}(h:SinceB K A B)(a:∀i,K i->L i):SinceB L A B:=⟨h.len,λi cs hi b=>h.box i cs hi λe=>b (a i e),h.row⟩
abbrev Fl:=List (List UInt8×List UInt8)
def FilesR(H:Heap):List (PV×AV)->Fl->Prop|[],[]=>True|(k,v)::es,(s,b)::l=>k=.str s/\(∃id f,v=.own id b.length/\H[id]?=some (.row f 1 (ao b)))/\FilesR H es l|_,_=>False
def fget(s:List UInt8):Fl->Option (List UInt8)|[]=>none|(t,b)::l=>if s=t then some b else fget s l
def fput(s b:List UInt8):Fl->Fl|[]=>[(s,b)]|(t,c)::l=>if s=t then(s,b)::l else(t,c)::fput s b l
theorem wa{s b:List UInt8}:∀{l:Fl},fget s l=none->fput s b l=l++[(s,b)]
 |[],_=>rfl|(t,c)::l,h=>by
  unfold fget at h;split at h;·grind
  ·rename_i a;unfold fput;rw[if_neg a,wa h];rfl
theorem nw{s b:List UInt8}:∀{l:Fl},fget s (fput s b l)=some b
 |[]=>by simp[fput,fget]|(t,c)::l=>by
  unfold fput;split;·simp[fget]
  ·rename_i h;simp[fget,h,nw]
theorem iJ{s b c:List UInt8}:∀{l:Fl},fput s b (fput s c l)=fput s b l
 |[]=>by simp[fput]|(t,d)::l=>by
  by_cases h:s=t;·simp[fput,h]
  ·simp[fput,h,iJ]
theorem FilesR.find{H:Heap}{s:List UInt8}:∀{a:List (PV×AV)}{l:Fl},FilesR H a l->(fget s l=none/\pZ (.str s) a=some none)\/∃b c f,fget s l=some b/\pZ (.str s) a=some (some (.own c b.length))/\H[c]?=some (.row f 1 (ao b))
 |[],[],_=>.inl ⟨rfl,rfl⟩|(k,v)::a,(t,b)::l,⟨d,⟨c,f,e,i⟩,g⟩=>by subst d;subst e;have j:=FilesR.find (s:=s) g;simp only[fget,pZ,uo];grind|[],_::_,h=>h.elim|(_,_)::_,[],h=>h.elim
theorem FilesR.put{H:Heap}{s b:List UInt8}{d:Nat}{f:Bool}(i:H[d]?=some (.row f 1 (ao b))):∀{g:List (PV×AV)}{l:Fl},FilesR H g l->∃a,mput (.str s) (.own d b.length) g=some a/\FilesR H a (fput s b l)
 |[],[],_=>⟨_,rfl,rfl,⟨d,f,rfl,i⟩,trivial⟩|(k,v)::g,(t,c)::l,⟨m,n,j⟩=>by
  subst m;let⟨a,p,o⟩:=FilesR.put (s:=s) i j;simp[fput,mput,uo];by_cases e:s=t;·subst e;refine⟨(.str s,.own d b.length)::g,by simp,?_⟩;rw[if_pos rfl];exact⟨rfl,⟨d,f,rfl,i⟩,j⟩
  ·rw[if_neg e];refine⟨(.str t,v)::a,?_,rfl,n,o⟩;grind|[],_::_,h=>h.elim|(_,_)::_,[],h=>h.elim
theorem FilesR.since{K:Nat->Prop}{H b:Heap}(d:Since K H b):∀{a:List (PV×AV)}{l:Fl},FilesR H a l->FilesR b a l
 |[],[],_=>trivial|(k,v)::a,(t,c)::l,⟨o,⟨e,f,j,g⟩,m⟩=>by let⟨n,i,_⟩:=d.row e f 1 _ g;exact⟨o,⟨e,n,j,i⟩,FilesR.since d m⟩|[],_::_,h=>h.elim|(_,_)::_,[],h=>h.elim
theorem FilesR.sinceB{K:Nat->Prop}{H d:Heap}(b:SinceB K H d):∀{a:List (PV×AV)}{l:Fl},FilesR H a l->FilesR d a l|[],[],_=>trivial|(k,v)::a,(t,c)::l,⟨g,⟨e,f,j,i⟩,m⟩=>by exact⟨g,⟨e,f,j,b.row e f _ i⟩,FilesR.sinceB b m⟩|[],_::_,h=>h.elim|(_,_)::_,[],h=>h.elim
def used(l:Fl):Nat:=(l.map λx=>x.2.length).sum
theorem FilesR.lens{H:Heap}:∀{a:List (PV×AV)}{l:Fl},FilesR H a l->uO H a=some (used l)
 |[],[],_=>rfl|(k,v)::a,(t,c)::l,⟨j,⟨i,f,g,e⟩,b⟩=>by have d:=FilesR.lens b;subst g;simp only[uO,jm,rowOf,e,d,];rw[if_pos aK];rfl|[],_::_,h=>h.elim|(_,_)::_,[],h=>h.elim
theorem FilesR.keys{H:Heap}:∀{a:List (PV×AV)}{l:Fl},FilesR H a l->(∀x∈l,x.1.length<=1000)->dH a=some (l.map (·.1))
 |[],[],_,_=>rfl|(k,v)::a,(t,c)::l,⟨e,_,d⟩,b=>by have f:=FilesR.keys d λx g=>b x (by grind);have :=b (t,c) (by simp);subst e;simp only[dH];rw[if_pos (by unfold lim;grind),f];rfl|[],_::_,h,_=>h.elim|(_,_)::_,[],h,_=>h.elim
theorem FilesR.len{H:Heap}:∀{a:List (PV×AV)}{l:Fl},FilesR H a l->a.length=l.length|[],[],_=>rfl|(k,v)::a,(t,c)::l,⟨_,_,b⟩=>by simp[FilesR.len b]|[],_::_,h=>h.elim|(_,_)::_,[],h=>h.elim
def ChR(B:Nat)(H:Heap)(ch:AV)(c:Nat):Prop:=(c=0/\ch=.p (.sl .nil 4 []))\/∃id xs,ch=.own id xs.length/\B<=id/\H[id]?=some (.row false 4 xs)/\0<xs.length/\xs.length<=c
def NoZ(Z:Nat->Prop)(es:List (PV×AV)):Prop:=∀x∈es,∀i n,x.2=.own i n->¬Z i
theorem NoZ.put{Z:Nat->Prop}{k:PV}{d m:Nat}(o:¬Z d):∀{c a:List (PV×AV)},NoZ Z c->mput k (.own d m) c=some a->NoZ Z a
 |[],a,_,h=>by simp[mput,]at h;subst h;intro x b i n e;grind|(j,p)::r,a,f,h=>by
  have s:=λi n e=>f (j,p) (by simp) i n e;have g:NoZ Z r:=λx b=>f x (by grind);simp[mput]at h;split at h
  ·cases h;intro x b i n e;rcases List.mem_cons.1 b with rfl|b;·grind
   ·exact g x b i n e
  ·obtain⟨q,l,rfl⟩:=Option.map_eq_some_iff.1 h;intro x b i n e;rcases List.mem_cons.1 b with rfl|b;·grind
   ·exact NoZ.put o g l x b i n e
  grind
structure FsS(F Pd M:Nat)(room:Nat)(Z:Nat->Prop)(H0:Heap)(l:Fl)(c:Nat)(H:Heap):Prop where
 f:H[F]?=some (.box [.bx Pd 0,.p (.int .i64 (room:Int)),.mp M])m:∃es,H[M]?=some (.box (ak es))/\FilesR H es l/\NoZ Z es
 zlt:∀i,Z i->i<H.length
 p:∃ch m2,H[Pd]?=some (.box [ch,.mp m2])/\ChR H0.length H ch c
 since:Since (λi=>i=Pd\/i=M) H0 H
theorem ChR.keep{B:Nat}{H b:Heap}{a:AV}{c:Nat}{K:Nat->Prop}(h:ChR B H a c)(l:Since K H b):ChR B b a c:=by
 rcases h with h|⟨d,xs,m,g,k,j,f⟩;·exact .inl h
 ·let⟨n,e,i⟩:=l.row d false 4 xs k;rw[i (by simp)]at e;exact .inr ⟨d,xs,m,g,e,j,f⟩
theorem FsS.keep{F g M room:Nat}{Z:Nat->Prop}{H0 H j:Heap}{l:Fl}{c:Nat}(h:FsS F g M room Z H0 l c H)(a:Since (λ_=>False) H j):FsS F g M room Z H0 l c j where
 f:=a.box F _ h.f (λe=>e);m:=by let⟨q,d,b,n⟩:=h.m;exact⟨q,a.box M _ d (λe=>e),b.since a,n⟩
 zlt i hi:=Nat.lt_of_lt_of_le (h.zlt i hi) a.len;p:=by let⟨o,k,d,b⟩:=h.p;exact⟨o,k,a.box g _ d (λe=>e),b.keep a⟩
 since:=h.since.trans (a.mono λ_ e=>e.elim)
theorem FsS.ne{F g M room:Nat}{Z:Nat->Prop}{H0 H:Heap}{l:Fl}{c:Nat}(h:FsS F g M room Z H0 l c H):F≠g/\F≠M/\g≠M:=by
 let⟨i,f,_⟩:=h.m;obtain⟨k,m,d,_,b⟩:=h.p
 ·subst b;refine⟨λe=>?_,λe=>?_,λe=>?_⟩;·have :=h.f;grind
  ·have :=h.f;rw[e,f]at this;simp[ak]at this
  ·rw[e,f]at d;simp[ak]at d
 ·rename_i b;let⟨j,xs,b,_⟩:=b;subst b;refine⟨λe=>?_,λe=>?_,λe=>?_⟩;·have :=h.f;grind
  ·have :=h.f;rw[e,f]at this;simp[ak]at this
  ·rw[e,f]at d;simp[ak]at d
theorem FilesR.lt{H:Heap}:∀{b:List (PV×AV)}{l:Fl},FilesR H b l->∀x∈b,∀i n,x.2=.own i n->i<H.length
 |[],[],_,x,a,_,_,_=>by grind|(k,v)::b,(t,c)::l,⟨j,⟨m,f,o,g⟩,d⟩,x,a,i,n,e=>by
  rcases List.mem_cons.1 a with rfl|a;·grind
  ·exact FilesR.lt d x a i n e|[],_::_,h,_,_,_,_,_=>h.elim|(_,_)::_,[],h,_,_,_,_,_=>h.elim
theorem FsS.addZ{F f M room:Nat}{H0 H b:Heap}{l:Fl}{c:Nat}(h:FsS F f M room (λ_=>False) H0 l c H)(d:Since (λ_=>False) H b){rb:Nat}(q:H.length<=rb)(o:rb<b.length):FsS F f M room (λi=>i=rb) H0 l c b:=by have a:=h.keep d;refine⟨a.f,?_,λi hi=>by grind,a.p,a.since⟩;let⟨j,k,g,p⟩:=h.m;exact⟨j,d.box M _ k (λe=>e),g.since d,λx m i n e hi=>by have :=g.lt x m i n e;omega⟩
theorem FsS.noZ{F a M room:Nat}{Z:Nat->Prop}{H0 H:Heap}{l:Fl}{c:Nat}(h:FsS F a M room Z H0 l c H):FsS F a M room (λ_=>False) H0 l c H:=by refine⟨h.f,?_,λi hi=>hi.elim,h.p,h.since⟩;let⟨d,f,b,g⟩:=h.m;exact⟨d,f,b,λ_ _ _ _ _ e=>e⟩
theorem Ps{b:List UInt8}(h:b≠[]):∃x xs,ao b=x::xs:=by cases b with|nil=>grind|cons a r=>exact⟨_,_,rfl⟩
theorem zJ(s:List UInt8)(d:1<=s.length)(b:s.length<=255):res Γ 534 [.str s]=some [.bool true]:=by have a:decide ((s.length:Int)<=255)=true:=decide_eq_true (by omega);refine ae (fn:=pL) rfl rfl ?_;simp(disch:=first|exact Dq|fail)only[go_sem,pL,a]
theorem MU{k k1:SK}(b:List UInt8)(c:b.length<=1000000):res Γ 532 [.int .i64 1073741824,.sl k 1 [.sl k1 1 (ao b)]]=some [.int .i64 (b.length:Int)]:=by refine ae (fn:=mq) rfl rfl ?_;simp(disch:=first|exact Dq|fail)only[go_sem,mq];rw[aa (L:=bQ) rfl];simp(disch:=first|exact Dq|fail)only[go_sem,bQ,aK];change Wp Γ bQ _ _ _;rw[aa (L:=bQ) rfl];simp(disch:=first|exact Dq|fail)only[go_sem,bQ]
theorem NM{k k1 k2:SK}(b d:List UInt8)(c:b.length<=1000000)(a:d.length<=1000000):res Γ 532 [.int .i64 1073741824,.sl k 1 [.sl k1 1 (ao b),.sl k2 1 (ao d)]]=some [.int .i64 ((b.length+d.length:Nat):Int)]:=by refine ae (fn:=mq) rfl rfl ?_;simp(disch:=first|exact Dq|fail)only[go_sem,mq];rw[aa (L:=bQ) rfl];simp(disch:=first|exact Dq|fail)only[go_sem,bQ,aK];change Wp Γ bQ _ _ _;rw[aa (L:=bQ) rfl];simp(disch:=first|exact Dq|fail)only[go_sem,bQ,aK];change Wp Γ bQ _ _ _;rw[aa (L:=bQ) rfl];simp(disch:=first|exact Dq|fail)only[go_sem,bQ];simp
theorem NY{k k1:SK}(b:List UInt8)(c:b.length<=1000000):res Γ 530 [.sl k 1 [.sl k1 1 (ao b)],.sl .nil 1 []]=some [.sl .any 1 (ao b)]:=nM (lr (g:=An) rfl (by simp[An,wQ,oz];omega))
theorem ON{k k1 k2:SK}(b d:List UInt8)(c:b.length<=1000000)(a:d.length<=1000000):res Γ 530 [.sl k 1 [.sl k1 1 (ao b),.sl k2 1 (ao d)],.sl .nil 1 []]=some [.sl .any 1 (ao (b++d))]:=nM (lr (g:=An) rfl (by simp[An,wQ,oz];omega))
theorem wI{k:SK}(g:k≠.nil)(b:List UInt8)(f:b.length<=1000000)(a:b≠[]):resM Γ 0 525 [.p (.sl k 1 (ao b))] []=some ([.own 0 b.length],[.row false 1 (ao b)]):=by have c:=@aK b;let⟨x,xs,e⟩:=Ps a;rw[e]at c⊢;rw[<-c];refine eK (fn:=jv) rfl rfl ?_;cases k with|nil=>grind|_=>simp(disch:=first|exact Dq|fail)only[go_sem,jv,oT,ip]
theorem Hw{f:Bool}(b:List UInt8)(g:b.length<=1000000)(a:b≠[]):resM Γ 1 525 [.own 0 b.length] [.row f 1 (ao b)]=some ([.own 1 b.length],[.row f 1 (ao b),.row false 1 (ao b)]):=by have d:=@aK b;have c:=List.length_pos_iff.2 a;refine eK (fn:=jv) rfl rfl ?_;simp(disch:=first|exact Dq|fail)only[go_sem,jv,ip];grind
section


variable{F Pd M room:Nat}{Z:Nat->Prop}{H0 H:Heap}{l:Fl}{c:Nat}{s:List UInt8}
theorem JQ(h:FsS F Pd M room Z H0 l c H)(m:1<=s.length)(k:s.length<=255){b:List UInt8}(d:fget s l=some b):∃a f,resW Γ 526 [.bx F 0,.p (.str s)] H=some ([.own a b.length,.p (.int .i64 0)],H)/\H[a]?=some (.row f 1 (ao b)):=by
 let⟨r,i,g,t⟩:=h.m;rcases g.find (s:=s)with⟨e,_⟩|⟨u,a,f,e,o,n⟩;·grind
 ·rw[d]at e;cases e;have q:=h.f;have j:=zJ s m k;refine⟨a,f,?_,n⟩;refine ah (fn:=nq) rfl rfl ?_;simp(disch:=first|exact Dq|fail)only[go_sem,nq,q,j,i,o]
theorem CP:aw Γ 526=true:=rfl
theorem fs_size(h:FsS F Pd M room Z H0 l c H)(i:1<=s.length)(e:s.length<=255){b:List UInt8}(j:fget s l=some b):resW Γ 506 [.bx F 0,.p (.str s)] H=some ([.p (.int .i64 (b.length:Int)),.p (.int .i64 0)],H):=by let⟨k,f,d,g⟩:=JQ h i e j;have n:=@aK b;refine ah (fn:=ng) rfl rfl ?_;simp(disch:=first|exact Dq|fail)only[go_sem,ng,CP,d,g]
theorem fs_read(h:FsS F Pd M room Z H0 l c H)(o:1<=s.length)(n:s.length<=255){b:List UInt8}(t:fget s l=some b)(q:b.length<=1000000)(g:b≠[]):∃e,resW Γ 505 [.bx F 0,.p (.str s),.p (.int .i64 0),.p (.int .i64 (b.length:Int))] H=some ([.own H.length b.length,.p (.int .i64 0)],e)/\Since (λ_=>False) H e/\e[H.length]?=some (.row false 1 (ao b)):=by
 let⟨m,f,r,i⟩:=JQ h o n t;have u:=@aK b;have j:=wI (k:=SK.any) (by simp) b q g;have d:gN 1 (.p (.sl .any 1 (ao b))) (some (.p (.int .i64 0))) (some (.p (.int .i64 (b.length:Int))))=some (.p (.sl .any 1 (ao b))):=by rw[Kt (by omega) (by omega) (by omega)];rw[show((b.length:Int)).toNat=b.length by omega,show(0:Int).toNat=0 by rfl,List.drop_zero,List.take_of_length_le (by omega)];rfl
 refine⟨H.set m (.row true 1 (ao b))++[.row false 1 (ao b)],?_,((Since.refl H).frz i).trans (Since.app _ _),?_⟩;·refine ah (fn:=mQ) rfl rfl ?_;simp(disch:=first|exact Dq|fail)only[go_sem,mQ,CP,r,i,d,j];simp
 simp
theorem fs_used(h:FsS F Pd M room Z H0 l c H)(m:used l<=1000000000):resW Γ 533 [.bx F 0] H=some ([.p (.int .i64 (used l:Int))],H):=by
 let⟨b,f,e,k⟩:=h.m;refine xN (g:=usedG) (rs:=[.int .i64 (used l:Int)]) rfl ?_;have j:dj H F=some [.bx Pd 0,.p (.int .i64 (room:Int)),.mp M]:=by simp[dj,h.f]
 have d:mapOf H M=some b:=by unfold mapOf;rw[f];exact vt b
 show(dj H F).bind (usedV H)=_;rw[j];show(mapOf H M).bind _=_;rw[d];show(uO H b).bind _=_;rw[e.lens];grind
theorem NH(m:Nat)(H:Heap):resW Γ 496 [.mp m] H=some ([.clo 518 [.bx H.length 0]],H++[.box [.mp m]]):=by refine ah (fn:=bo) rfl rfl ?_;simp(disch:=first|exact Dq|fail)only[go_sem,bo,boxA]
theorem still496:aw Γ 496=true:=rfl
theorem fs_list(h:FsS F Pd M room Z H0 l c H)(o:∀x∈l,x.1.length<=1000)(u:l.length<=1000000):resW Γ 485 [.bx F 0] H=some ([.p (rowS (nR (l.map (·.1))))],H++[.box [.mp M]]):=by
 let⟨d,e,i,t⟩:=h.m;have r:=h.f;have b:=(List.getElem?_eq_some_iff.1 e).1;have m:=NH M H;have k:resW Γ 429 [.clo 518 [.bx H.length 0]] (H++[.box [.mp M]])=some ([.p (rowS (nR (l.map (·.1))))],H++[.box [.mp M]]):=by
  have n:Γ.fn 429=some (.look (Pn [518,433])):=rfl;refine xN (Γ:=Γ) (f:=429) (g:=Pn [518,433]) (rs:=[rowS (nR (l.map (·.1)))]) n ?_;have q:dj (H++[.box [.mp M]]) H.length=some [.mp M]:=by simp[dj]
  have j:mapOf (H++[.box [.mp M]]) M=some d:=by unfold mapOf;rw[List.getElem?_append_left b,e];exact vt _
  have s:d.length<=lim:=by unfold lim;rw[i.len];omega
  show(dj (H++[.box [.mp M]]) H.length).bind (keysV (H++[.box [.mp M]]))=_;rw[q];show(mapOf (H++[.box [.mp M]]) M).bind _=_;rw[j];show(dH d).bind _=_;rw[i.keys o];grind
 refine ah (fn:=mW) rfl rfl ?_;simp(disch:=first|exact Dq|fail)only[go_sem,mW,r,still496,KA,m,k]
end
def spl(b:List UInt8)(at_:Nat)(d:List UInt8):List UInt8:=b.take at_++d++b.drop (at_+d.length)
theorem Ae{b d:List UInt8}{a:Nat}(h:a+d.length<=b.length):(spl b a d).length=b.length:=by simp[spl,];omega
theorem splP{b d:List UInt8}{a:Nat}:ji (ao b) a (ao d)=ao (spl b a d):=by simp[ji,spl,tE,tH,wU,aK]
def chgC(s:List UInt8)(b:List UInt8):PV:=.agg [.int .i64 0,.str s,.int .i64 0,.sl .any 1 (ao b)]
def chgW(s:List UInt8)(a:Nat)(d:List UInt8):PV:=.agg [.int .i64 1,.str s,.int .i64 (a:Int),.sl .any 1 (ao d)]
mutual
theorem MA:∀a:PV,eqP a a=true|.int _ _=>by simp[eqP]|.bool _=>by simp[eqP]|.str _=>by simp[eqP]|.nilp=>rfl|.nilfn=>rfl|.nilmap=>rfl|.clo _ xs=>by simp[eqP,oJ xs]|.sl _ _ xs=>by simp[eqP,oJ xs]|.ptr xs=>by simp[eqP,oJ xs]|.agg xs=>by simp[eqP,oJ xs]theorem oJ:∀a:List PV,eqPs a a=true|[]=>rfl|a::r=>by simp[eqPs,MA a,oJ r]end
mutual
theorem eqA_refl:∀a:AV,eqA a a=true|.p x=>by simp[eqA,MA x]|.own _ _=>by simp[eqA]|.bx _ _=>by simp[eqA]|.el _ _ _ _=>by simp[eqA]|.mp _=>by simp[eqA]|.nov=>rfl|.any=>rfl|.agg xs=>by simp[eqA,lj xs]|.tup xs=>by simp[eqA,lj xs]|.clo _ xs=>by simp[eqA,lj xs]theorem lj:∀a:List AV,eqAs a a=true|[]=>rfl|a::r=>by simp[eqAs,eqA_refl a,lj r]end
theorem GW{H:Heap}{i:Nat}{x y:AV}{r:List AV}(h:H[i]?=some (.box (x::y::r))):jl H H i=true:=by unfold jl;rw[h];simp[lj,KI]
theorem CU{H:Heap}{i:Nat}{b:Blk}(h:H[i]?=some b):H.set i b=H:=by apply List.ext_getElem?;grind
theorem KO{H:Heap}{a i n:Nat}{k:List UInt8}:Er H .str (.mp a) (.p (.str k)) (.own i n)=(mapK H[a]?).bind λb=>msK H a (mput (.str k) (.own i n) b):=DR rfl
section


variable{F Pd M room:Nat}{Z:Nat->Prop}{H0 H:Heap}{l:Fl}{c:Nat}{s:List UInt8}
theorem Hj(h:FsS F Pd M room Z H0 l c H)(b:List UInt8)(w:b.length<=1000000)(j:b≠[]):∃n,resW Γ 543 [.bx F 0,.p (chgC s b)] H=some ([],n)/\FsS F Pd M room Z H0 (fput s b l) c n/\SinceB (λi=>i=Pd\/i=M) H n:=by
 let⟨v,G,x,A⟩:=h.m;let⟨y,u,E,C⟩:=h.p;let⟨n1,D,I⟩:=h.ne;have t:=h.f;have m:=(List.getElem?_eq_some_iff.1 t).1;have o:=wI (k:=SK.any) (by simp) b w j;have r:Since (λi=>i=Pd\/i=M) H (H++[.row false 1 (ao b)]):=Since.app _ _;let⟨f,q,z⟩:=FilesR.put (s:=s) (show(H++[Blk.row false 1 (ao b)])[H.length]?=some (.row false 1 (ao b))by simp) (x.since r);have a:(H++[Blk.row false 1 (ao b)])[M]?=some (.box (ak v)):=by grind
 have d:Since (λi=>i=Pd\/i=M) H ((H++[Blk.row false 1 (ao b)]).set M (.box (ak f))):=r.set (.inl ⟨.inr rfl,_,a⟩);refine⟨_,?_,⟨?_,⟨f,List.getElem?_set_self (by grind),z.since ((Since.refl _).set (.inl ⟨.inr rfl,_,a⟩):Since (λi=>i=Pd\/i=M) _ _),NoZ.put (λe=>by have :=h.zlt _ e;omega) A q⟩,λi hi=>Nat.lt_of_lt_of_le (h.zlt i hi) d.len,⟨y,u,?_,C.keep d⟩,h.since.trans d⟩,(SinceB.app _ _).set (.inl ⟨.inr rfl,_,a⟩)⟩;·refine ah (fn:=fU) rfl rfl ?_;have B:=decide_eq_true m;simp(disch:=first|exact Dq|fail)only[go_sem,fU,chgC,t,o,a,q,B,kpO_t,KO,Nat.add_zero]
 all_goals grind
theorem JT(h:FsS F Pd M room Z H0 l c H){b:List UInt8}(T:fget s l=some b)(U:b.length<=1000000)(w:b≠[])(a:Nat)(d:List UInt8)(D:a+d.length<=b.length)(E:a<b.length):∃t,resW Γ 543 [.bx F 0,.p (chgW s a d)] H=some ([],t)/\FsS F Pd M room Z H0 (fput s (spl b a d) l) c t/\SinceB (λi=>i=Pd\/i=M) H t:=by
 let⟨P,Q,A,J⟩:=h.m;let⟨L,C,Y,W⟩:=h.p;let⟨n1,X,n3⟩:=h.ne;have y:=h.f;have G:=(List.getElem?_eq_some_iff.1 y).1;rcases A.find (s:=s)with⟨e,_⟩|⟨b',id,f,e,O,x⟩;·grind
 rw[T]at e;cases e;have u:=Hw (f:=f) b U w;have z:=@aK b;have V:=@aK d;have n:=Ae D;have B:Since (λi=>i=Pd\/i=M) H (H++[.row false 1 (ao (spl b a d))]):=Since.app _ _;let⟨m,q,S⟩:=FilesR.put (s:=s) (show(H++[Blk.row false 1 (ao (spl b a d))])[H.length]?=some (.row false 1 (ao (spl b a d)))by simp) (A.since B);rw[n]at q;have g:(H++[Blk.row false 1 (ao (spl b a d))])[M]?=some (.box (ak P)):=by grind
 have o:(H++[Blk.row false 1 (ao (spl b a d))])[F]?=some (.box [.bx Pd 0,.p (.int .i64 (room:Int)),.mp M]):=by grind
 have j:Since (λi=>i=Pd\/i=M) H ((H++[Blk.row false 1 (ao (spl b a d))]).set M (.box (ak m))):=B.set (.inl ⟨.inr rfl,_,g⟩);refine⟨_,?_,⟨?_,⟨m,List.getElem?_set_self (by grind),S.since ((Since.refl _).set (.inl ⟨.inr rfl,_,g⟩):Since (λi=>i=Pd\/i=M) _ _),NoZ.put (λe=>by have :=h.zlt _ e;omega) J q⟩,λi hi=>Nat.lt_of_lt_of_le (h.zlt i hi) j.len,⟨L,C,?_,W.keep j⟩,h.since.trans j⟩,(SinceB.app _ _).set (.inl ⟨.inr rfl,_,g⟩)⟩
 ·have st:ir Γ 1 525=true:=rfl;have K:km (H++[Blk.row false 1 (ao b)]) 1 (.own H.length b.length) (some (.p (.int .i64 (a:Int)))) none=some (.el H.length b.length (b.length+a) b.length):=by
   have r1:rowOf (H++[Blk.row false 1 (ao b)]) H.length b.length=some (1,ao b):=by simp[rowOf,z]
   simp[km,bound];grind
  have N:(H++[Blk.row false 1 (ao b)])[H.length]?=some (.row false 1 (ao b)):=by simp
  have r:a<=b.length:=by omega
  have R:List.take (b.length-a) (ao d)=ao d:=List.take_of_length_le (by omega);have I:kx (H++[Blk.row false 1 (ao b)]) 1 (.p (.sl .any 1 (ao d)))=some (ao d):=by rfl
  refine ah (fn:=fU) rfl rfl ?_;have v:=CU x;simp(disch:=first|exact Dq|fail)only[go_sem,fU,chgW,y,Q,O,x,st,u,v,kr,K,I,Nat.add_zero,Nat.le_add_right,Nat.add_sub_cancel_left,E,r,Nat.le_refl,N,z,R,splP,g,o,q,KO]
 all_goals grind
theorem KH:aw Γ 543=true:=rfl
theorem PP{N:Fl}(h:FsS F Pd M room Z H0 l c H)(f j d k:PV)(h0:f.one=true)(h1:j.one=true)(h2:d.one=true)(h3:k.one=true)(W:c<=1000)(B:∀E,FsS F Pd M room Z H0 l c E->∃t,resW Γ 543 [.bx F 0,.p (.agg [f,j,d,k])] E=some ([],t)/\FsS F Pd M room Z H0 N c t/\SinceB (λi=>i=Pd\/i=M) E t):∃t,resW Γ 531 [.bx F 0,.p (.agg [f,j,d,k])] H=some ([],t)/\FsS F Pd M room Z H0 N (c+1) t/\SinceB (λi=>i=Pd\/i=M) H t:=by
 have hk:=h.keep (Since.app H [.box [.p f,.p j,.p d,.p k]]);let⟨b,P,o,K⟩:=B _ hk;let⟨n1,n2,n3⟩:=o.ne;have C:=o.f;let⟨ch,r,D,hc⟩:=o.p;have J:=(List.getElem?_eq_some_iff.1 D).1;have I:=(List.getElem?_eq_some_iff.1 C).1;have S:Pd<H.length:=by let⟨_,_,q,_⟩:=h.p;grind
 have L:M<H.length:=by let⟨_,q,_⟩:=h.m;grind
 have w:b[H.length]?=some (.box [.p f,.p j,.p d,.p k]):=K.box H.length _ (by simp) (by omega);have u:=(SinceB.app H _).trans K;have dF:=decide_eq_true I;have Q:∀G:Heap,b.length<(b++[Blk.row false 4 [PV.agg [f,j,d,k]]]).length:=by simp
 rcases hc with⟨hc0,rfl⟩|⟨g,xs,rfl,T,n,O,hle⟩
 ·have s:Since (λi=>i=Pd\/i=M) b ((b++[Blk.row false 4 [PV.agg [f,j,d,k]]]).set Pd (.box [.own b.length 1,.mp r])):=(Since.app _ _).set (.inl ⟨.inl rfl,_,by rw[List.getElem?_append_left J];omega⟩);have m:(b++[Blk.row false 4 [PV.agg [f,j,d,k]]])[Pd]?=some (.box [.p (.sl .nil 4 []),.mp r]):=by grind
  refine⟨_,?_,⟨?_,?_,λi hi=>Nat.lt_of_lt_of_le (o.zlt i hi) s.len,⟨.own b.length 1,r,List.getElem?_set_self (by grind),.inr ⟨b.length,[PV.agg [f,j,d,k]],rfl,o.since.len,?_,by simp,by simp⟩⟩,o.since.trans s⟩,u.trans ((SinceB.app _ _).set (.inl ⟨.inl rfl,_,m⟩))⟩;·refine ah (fn:=jj) rfl rfl ?_;simp(disch:=first|exact Dq|fail)only[go_sem,jj,KH,dB,P,C,D,w,m]
  ·grind
  ·let⟨x,A,z,y⟩:=o.m;have hMl:=(List.getElem?_eq_some_iff.1 A).1;exact⟨x,by grind,z.since s,y⟩
  grind
 ·have R:=(List.getElem?_eq_some_iff.1 n).1;have iP:g≠Pd:=λe=>by grind
  have iF:g≠F:=λe=>by grind
  have iM:g≠M:=λe=>by obtain⟨x,A,_,_⟩:=o.m;grind
  have m:(b.set g (Blk.row false 4 (xs++[PV.agg [f,j,d,k]])))[Pd]?=some (.box [.own g xs.length,.mp r]):=by grind
  have v:cH b 4 (.own g xs.length) [PV.agg [f,j,d,k]]=some (.own g (xs.length+1),b.set g (Blk.row false 4 (xs++[PV.agg [f,j,d,k]]))):=by rw[app_own n rfl (by grind)];rfl
  have Y:Since (λi=>i=Pd\/i=M) H0 (b.set g (Blk.row false 4 (xs++[PV.agg [f,j,d,k]]))):=o.since.set (.inr T);have V:Since (λi=>i=Pd\/i=M) H0 ((b.set g (Blk.row false 4 (xs++[PV.agg [f,j,d,k]]))).set Pd (.box [.own g (xs.length+1),.mp r])):=Y.set (.inl ⟨.inl rfl,_,m⟩);have X:SinceB (λi=>i=Pd\/i=M) H ((b.set g (Blk.row false 4 (xs++[PV.agg [f,j,d,k]]))).set Pd (.box [.own g (xs.length+1),.mp r])):=(u.set (.inr ⟨_,_,n⟩)).set (.inl ⟨.inl rfl,_,m⟩);have U:SinceB (λi=>i=Pd\/i=M) b ((b.set g (Blk.row false 4 (xs++[PV.agg [f,j,d,k]]))).set Pd (.box [.own g (xs.length+1),.mp r])):=((SinceB.refl b).set (.inr ⟨_,_,n⟩)).set (.inl ⟨.inl rfl,_,m⟩);refine⟨_,?_,⟨?_,?_,λi hi=>Nat.lt_of_lt_of_le (o.zlt i hi) U.len,⟨.own g (xs.length+1),r,List.getElem?_set_self (by grind),.inr ⟨g,xs++[PV.agg [f,j,d,k]],by simp,T,?_,by simp,by grind⟩⟩,V⟩,X⟩
  ·have hm1:xs.length+1<=1073741824:=by omega
   refine ah (fn:=jj) rfl rfl ?_;simp(disch:=first|exact Dq|fail)only[go_sem,jj,KH,dB,P,C,D,w,m,v];done
  ·grind
  ·obtain⟨x,A,z,y⟩:=o.m;exact⟨x,by grind,z.sinceB U,y⟩
  grind
end
section


variable{F Pd M room:Nat}{Z:Nat->Prop}{H0 H:Heap}{l:Fl}{c:Nat}{s:List UInt8}
theorem LK:aw Γ 531=true:=rfl
theorem still533:aw Γ 533=true:=rfl
theorem still514:aw Γ 514=true:=rfl
theorem resW_hi{f:Nat}{g:HiFn}{args rs:List AV}{H b:Heap}(d:Γ.fn f=some (.hi g))(h:∀c,g.go c args H=some (rs,b)):resW Γ f args H=some (rs,b):=by refine rA ⟨0,?_⟩;unfold callOf;grind
theorem UO(h:FsS F Pd M room Z H0 l c H)(w:1<=s.length)(y:s.length<=255)(S:fget s l=none){k k1 k2:SK}(b d:List UInt8)(L:b.length<=100000)(J:d.length<=100000)(x:b≠[])(o:c<=1000)(R:room<=1000000000)(K:used l+(b.length+d.length)<=room):∃g,resW Γ 512 [.bx F 0,.p (.str s),.p (.sl k 1 [.sl k1 1 (ao b),.sl k2 1 (ao d)])] H=some ([.p (.int .i64 0)],g)/\FsS F Pd M room Z H0 (fput s (b++d) l) (c+1) g/\SinceB (λi=>i=Pd\/i=M) H g:=by
 have a:b++d≠[]:=by simp[*]
 let⟨g,B,r,A⟩:=PP h (.int .i64 0) (.str s) (.int .i64 0) (.sl .any 1 (ao (b++d))) rfl rfl rfl rfl o (λO v=>Hj v (b++d) (by grind) a);refine⟨g,?_,r,A⟩;let⟨I,D,C,Q⟩:=h.m;rcases C.find (s:=s)with⟨_,z⟩|⟨N,G,f,e,_⟩;rotate_left;·grind
 have m:=h.f;have q:=zJ s w y;have E:=NM (k:=k) (k1:=k1) (k2:=k2) b d (by omega) (by omega);have t:=ON (k:=k) (k1:=k1) (k2:=k2) b d (by omega) (by omega);have j:=fs_used h (by omega);have u:=GW m;refine ah (fn:=ky) rfl rfl ?_;simp(disch:=first|exact Dq|fail)only[go_sem,ky,m,q,D,z,E,t,j,u,still533,LK,B]
theorem fs_write(h:FsS F Pd M room Z H0 l c H)(t:1<=s.length)(v:s.length<=255){b:List UInt8}(m:fget s l=some b)(E:b.length<=100000)(j:b≠[]){k k1:SK}(a:Nat)(d:List UInt8)(z:a+d.length<=b.length)(x:a<b.length)(o:c<=1000):∃g,resW Γ 539 [.bx F 0,.p (.str s),.p (.int .i64 (a:Int)),.p (.sl k 1 [.sl k1 1 (ao d)])] H=some ([.p (.int .i64 0)],g)/\FsS F Pd M room Z H0 (fput s (spl b a d) l) (c+1) g/\SinceB (λi=>i=Pd\/i=M) H g:=by let⟨g,y,B,w⟩:=PP h (.int .i64 1) (.str s) (.int .i64 (a:Int)) (.sl .any 1 (ao d)) rfl rfl rfl rfl o (λG r=>JT r m (by omega) j a d z x);refine⟨g,?_,B,w⟩;let⟨I,f,u,q⟩:=JQ h t v m;have C:=MU (k:=k) (k1:=k1) d (by omega);have A:=NY (k:=k) (k1:=k1) d (by omega);have D:=@aK b;refine ah (fn:=jH) rfl rfl ?_;simp(disch:=first|exact Dq|fail)only[go_sem,jH,CP,u,q,C,A,LK,y]
theorem Tz(h:FsS F Pd M room Z H0 l c H):∃m,resW Γ 494 [.bx F 0] H=some ([],m)/\FsS F Pd M room Z H0 l 0 m/\SinceB (λi=>i=Pd\/i=M) H m:=by
 let⟨d,y,w,v⟩:=h.m;let⟨n,u,B,z⟩:=h.p;let⟨n1,A,D⟩:=h.ne;have t:=h.f;have k:(H++[Blk.box (ak d)])[F]?=some (.box [.bx Pd 0,.p (.int .i64 (room:Int)),.mp M]):=by grind
 have x:jl H (H++[Blk.box (ak d)]) F=true:=by unfold jl;rw[t,k];simp[lj,KI]
 have s:resW Γ 514 [.mp M] H=some ([.mp H.length],H++[Blk.box (ak d)]):=by refine resW_hi (g:=Ed) rfl λc=>?_;show(mapOf H M).map _=_;unfold mapOf;rw[y];show(qR (ki d)).map _=_;rw[vt];rfl
 have e:(H++[Blk.box (ak d)])[Pd]?=some (.box [n,.mp u]):=by grind
 have q:∀r,boxK (some (.box (n::r)))=some (n::r):=by intro r;rcases z with⟨_,rfl⟩|⟨E,xs,rfl,_⟩<;>rfl
 have j:Pd<(H++[Blk.box (ak d)]).length:=by grind
 have f:Since (λi=>i=Pd\/i=M) H ((H++[Blk.box (ak d)]).set Pd (.box [.p (.sl .nil 4 []),.mp H.length])):=(Since.app _ _).set (.inl ⟨.inl rfl,_,e⟩);refine⟨_,?_,⟨?_,⟨d,?_,w.since f,v⟩,λi hi=>Nat.lt_of_lt_of_le (h.zlt i hi) f.len,⟨.p (.sl .nil 4 []),H.length,List.getElem?_set_self j,.inl ⟨rfl,rfl⟩⟩,h.since.trans f⟩,(SinceB.app _ _).set (.inl ⟨.inl rfl,_,e⟩)⟩;·refine ah (fn:=mN) rfl rfl ?_;have o:∀b,((H++[Blk.box (ak d)]).set Pd b)[Pd]?=some b:=λb=>List.getElem?_set_self j;simp(disch:=first|exact Dq|fail)only[go_sem,mN,t,still514,s,x,e,q,o,List.set_set]
 all_goals grind
end
theorem Hc(b:Bool)(n:Int):isV (b,n)=if b=true then decide (-4611686018427387904<=n/\n<=4611686018427387904)else decide (n=0):=rfl
@[go_sem]theorem res_fixedIs(b:Bool)(n:Int):res Γ 126 [.agg [.bool b,.int .i64 n]]=some [.bool (isV (b,n))]:=by
 refine ae (fn:=sH) rfl rfl ?_;cases b;·simp(disch:=first|exact Dq|fail)only[go_sem,sH,Hc]
 ·repeat'(first|(simp(disch:=first|exact Dq|fail)only[go_sem,sH,Hc])|refine aP (λc=>?_) (λc=>?_)|refine cM (λc=>?_) (λc=>?_)|refine cK (λc=>?_) (λc=>?_))
  all_goals grind
@[go_sem]theorem res_r1Is(b:Bool)(n:Int):res Γ 120 [.agg [.bool b,.int .i64 n]]=some [.bool (isV (b,n))]:=by
 refine ae (fn:=QT) rfl rfl ?_;cases b;·simp(disch:=first|exact Dq|fail)only[go_sem,QT,Hc]
 ·repeat'(first|(simp(disch:=first|exact Dq|fail)only[go_sem,QT,Hc])|refine aP (λc=>?_) (λc=>?_)|refine cM (λc=>?_) (λc=>?_)|refine cK (λc=>?_) (λc=>?_))
  all_goals grind
@[go_sem]theorem res_fixedKnown(b:Bool)(n:Int):res Γ 146 [.agg [.bool b,.int .i64 n]]=some [.bool (knV (b,n))]:=by
 refine ae (fn:=kZ) rfl rfl ?_;cases b;·simp(disch:=first|exact Dq|fail)only[go_sem,kZ,knV]
 ·simp(disch:=first|exact Dq|fail)only[go_sem,kZ,knV]
@[go_sem]theorem res_r1Known(b:Bool)(n:Int):res Γ 135 [.agg [.bool b,.int .i64 n]]=some [.bool (knV (b,n))]:=by
 refine ae (fn:=rQ) rfl rfl ?_;cases b;·simp(disch:=first|exact Dq|fail)only[go_sem,rQ,knV]
 ·simp(disch:=first|exact Dq|fail)only[go_sem,rQ,knV]
@[go_sem]theorem res_r1two(b:Bool)(n:Int)(c:Bool)(m:Int):res Γ 141 [.agg [.bool b,.int .i64 n],.agg [.bool c,.int .i64 m]]=some [.bool (knV (b,n)&&knV (c,m))]:=by
 refine ae (fn:=Ml) rfl rfl ?_;simp(disch:=first|exact Dq|fail)only[go_sem,Ml];cases h:knV (b,n);·simp(disch:=first|exact Dq|fail)only[go_sem]
 ·simp(disch:=first|exact Dq|fail)only[go_sem]
theorem Md{n:Int}(h:-4611686018427387904<=n/\n<=4611686018427387904):ofV n=(true,n):=by unfold ofV maxN;grind
theorem Dr{n:Int}(h:¬(-4611686018427387904<=n/\n<=4611686018427387904)):ofV n=(false,0):=by unfold ofV maxN noV;grind
@[go_sem]theorem res_fixedOf(n:Int):res Γ 143 [.int .i64 n]=some [.agg [.bool (ofV n).1,.int .i64 (ofV n).2]]:=by
 refine ae (fn:=se) rfl rfl ?_;by_cases h:-4611686018427387904<=n/\n<=4611686018427387904
 ·have e:isV (true,n)=true:=by simp[isV,maxN,h]
  simp(disch:=first|exact Dq|fail)only[go_sem,se,e,Md]
 ·have e:isV (true,n)=false:=by rw[Hc,if_pos rfl];grind
  simp(disch:=first|exact Dq|fail)only[go_sem,se,e,Dr]
@[go_sem]theorem res_r1Of(n:Int):res Γ 134 [.int .i64 n]=some [.agg [.bool (ofV n).1,.int .i64 (ofV n).2]]:=by
 refine ae (fn:=UI) rfl rfl ?_;by_cases h:-4611686018427387904<=n/\n<=4611686018427387904;·simp(disch:=first|exact Dq|fail)only[go_sem,UI,Md]
 ·repeat'(first|(simp(disch:=first|exact Dq|fail)only[go_sem,UI,Dr])|refine aP (λb=>?_) (λb=>?_)|refine cM (λb=>?_) (λb=>?_)|refine cK (λb=>?_) (λb=>?_))
theorem lJ{b:Bool}{n:Int}(h:knV (b,n)=true):b=true/\-4611686018427387904<=n/\n<=4611686018427387904:=knV_iff.1 h
theorem Mb{a b:Val}(h:knV a=false):sumV a b=(false,0):=by unfold sumV;rw[if_neg (by grind)];rfl
theorem Kp{a b:Val}(h:knV b=false):sumV a b=(false,0):=by unfold sumV;rw[if_neg (by grind)];rfl
theorem KU{a b:Val}(h:knV a=true)(c:knV b=true):sumV a b=ofV (a.2+b.2):=by unfold sumV;grind
@[go_sem]theorem res_fixedSum(b:Bool)(n:Int)(c:Bool)(m:Int):res Γ 142 [.agg [.bool b,.int .i64 n],.agg [.bool c,.int .i64 m]]=some [.agg [.bool (sumV (b,n) (c,m)).1,.int .i64 (sumV (b,n) (c,m)).2]]:=by
 refine ae (fn:=mz) rfl rfl ?_;cases h:knV (b,n);·simp(disch:=first|exact Dq|fail)only[go_sem,mz,h,Mb h]
 ·cases e:knV (c,m);·simp(disch:=first|exact Dq|fail)only[go_sem,mz,h,e,Kp e]
  ·let⟨_,i,f⟩:=lJ h;let⟨_,j,g⟩:=lJ e;repeat'(first|(simp(disch:=first|exact Dq|fail)only[go_sem,mz,h,e,KU h e])|refine aP (λd=>?_) (λd=>?_)|refine cM (λd=>?_) (λd=>?_)|refine cK (λd=>?_) (λd=>?_))
   all_goals rw[Dr (by omega)]
@[go_sem]theorem res_r1plus(b:Bool)(n:Int)(c:Bool)(m:Int):res Γ 133 [.agg [.bool b,.int .i64 n],.agg [.bool c,.int .i64 m]]=some [.agg [.bool (sumV (b,n) (c,m)).1,.int .i64 (sumV (b,n) (c,m)).2]]:=by
 refine ae (fn:=tX) rfl rfl ?_;cases h:knV (b,n);·simp(disch:=first|exact Dq|fail)only[go_sem,tX,h,Mb h]
 ·cases d:knV (c,m);·simp(disch:=first|exact Dq|fail)only[go_sem,tX,h,d,Kp d]
  ·let⟨_,g,f⟩:=lJ h;let⟨_,i,j⟩:=lJ d;repeat'(first|(simp(disch:=first|exact Dq|fail)only[go_sem,tX,h,d,KU h d])|refine aP (λe=>?_) (λe=>?_)|refine cM (λe=>?_) (λe=>?_)|refine cK (λe=>?_) (λe=>?_))
   all_goals rw[Dr (by omega)]
@[go_sem]theorem res_fixedLess(b:Bool)(n:Int)(c:Bool)(m:Int):res Γ 139 [.agg [.bool b,.int .i64 n],.agg [.bool c,.int .i64 m]]=some [.bool (Nb (b,n) (c,m))]:=by
 refine ae (fn:=kL) rfl rfl ?_;cases h:knV (b,n);·simp(disch:=first|exact Dq|fail)only[go_sem,kL,h,Nb]
 ·cases d:knV (c,m);·simp(disch:=first|exact Dq|fail)only[go_sem,kL,h,d,Nb]
  ·simp(disch:=first|exact Dq|fail)only[go_sem,kL,h,d,Nb]
theorem wrap_u64{x:Int}(b:0<=x)(c:x<=18446744073709551615):IntKind.u64.wrap x=x:=by simp[IntKind.wrap,IntKind.bits,IntKind.signed,];grind
theorem map_rem{k:IntKind}{a b:Int}(d:0<=a)(e:0<b):cb .rem (.p (.int k a)) (.p (.int k b))=some (.p (.int k (a%b))):=by simp[cb,ly,gt,];grind
theorem QS{k:IntKind}{a b:Int}(f:0<=a)(d:0<b)(e:k.wrap (a/b)=a/b):cb .quo (.p (.int k a)) (.p (.int k b))=some (.p (.int k (a/b))):=by simp[cb,ly,gt,];grind
attribute[go_sem]wrap_u64 map_rem
theorem Dv{Y n1 n0 U u q r Q:Int}(d:Y=n1*4294967296+n0)(c:U=q*n1+r)(a:q*n0<=4294967296*r+u)(f:U*4294967296+u<(Q+1)*Y)(g:Q<=q)(b:0<Y):q=Q:=by
 have e:q*Y=q*n1*4294967296+q*n0:=by grind
 have l:q*Y<(Q+1)*Y:=by omega
 have :=Int.lt_of_mul_lt_mul_right l (Int.le_of_lt b);omega
theorem JZ{Y n1 n0 U u q r Q:Int}(d:Y=n1*4294967296+n0)(c:U=q*n1+r)(b:4294967296*r+u<q*n0)(g:Q*Y<=U*4294967296+u)(a:0<Y):Q<=q-1:=by
 have e:q*Y=q*n1*4294967296+q*n0:=by grind
 have l:Q*Y<q*Y:=by omega
 have :=Int.lt_of_mul_lt_mul_right l (Int.le_of_lt a);omega
theorem dig_lt{Y U u Q:Int}(b:U<Y)(c:u<4294967296)(e:Q*Y<=U*4294967296+u)(d:0<Y):Q<4294967296:=by
 have l:Q*Y<4294967296*Y:=by omega
 simp_all
theorem GJ{Y n1 n0 U u Q:Int}(f:Y=n1*4294967296+n0)(c:0<n1)(b:0<=n0)(g:u<4294967296)(a:0<=Q)(h:Q*Y<=U*4294967296+u):Q<=U/n1:=by
 have e:Q*Y=Q*n1*4294967296+Q*n0:=by grind
 have p:=Int.mul_nonneg a b;have l:Q*n1<=U:=by omega
 exact(Int.le_ediv_iff_mul_le c).2 l
theorem tg{Y n1 n0 U u q r Q:Int}(f:Y=n1*4294967296+n0)(g:0<n1)(k:n0<4294967296)(a:0<=n0)(b:U=q*n1+r)(o:4294967296<=r)(c:U<Y)(n:0<=u)(h:U*4294967296+u<(Q+1)*Y)(e:Q<=q)(d:0<=q):q=Q/\q<4294967296:=by
 have l:q*n1<4294967296*n1:=by omega
 have i:=Int.lt_of_mul_lt_mul_right l (Int.le_of_lt g);have m:q*n0<=4294967296*n0:=Int.mul_le_mul_of_nonneg_right (by omega) a;exact⟨Dv f b (by omega) h e (by omega),i⟩
theorem tW{x y:Int}(v:0<=x/\x<18446744073709551616)(A:0<=y/\y<18446744073709551616):let g:=x%4294967296;let d:=x/4294967296;let h:=y%4294967296;let f:=y/4294967296;let w0:=g*h;let t:=d*h+w0/4294967296;let m:=t%4294967296+g*f;(0<=w0/\w0<=18446744065119617025)/\(0<=d*h/\d*h<=18446744065119617025)/\(0<=g*f/\g*f<=18446744065119617025)/\(0<=d*f/\d*f<=18446744065119617025)/\d*f+t/4294967296+m/4294967296=x*y/18446744073709551616/\(0<=x*y/18446744073709551616/\x*y/18446744073709551616<18446744073709551616):=by
 intro g d h f w0 t m;have b:∀a c:Int,0<=a->a<=4294967295->0<=c->c<=4294967295->0<=a*c/\a*c<=18446744065119617025:=λa c o q n p=>⟨Int.mul_nonneg o n,Int.le_trans (Int.mul_le_mul q p n (by simp)) (by simp)⟩;have k:0<=g/\g<=4294967295:=by omega
 have j:0<=d/\d<=4294967295:=by omega
 have i:0<=h/\h<=4294967295:=by omega
 have l:0<=f/\f<=4294967295:=by omega
 have w:=b g h k.1 k.2 i.1 i.2;have z:=b d h j.1 j.2 i.1 i.2;have u:=b g f k.1 k.2 l.1 l.2;have r:=b d f j.1 j.2 l.1 l.2;have e:x*y=18446744073709551616*(d*f)+4294967296*(d*h)+4294967296*(g*f)+g*h:=by grind
 omega
theorem di(x:Int):IntKind.u64.wrap x=x%18446744073709551616:=by rfl
theorem kT(x:Int):cb .shr (.p (.int .u64 x)) (.p (.int .u64 32))=some (.p (.int .u64 (x/4294967296))):=by
 have e:x.fdiv (2^min 32 IntKind.u64.bits)=x/4294967296:=by
  have e:(2:Int)^(min 32 IntKind.u64.bits)=4294967296:=by rfl
  grind
 simp[cb,ly,gt,e]
theorem xP{x:Int}(c:0<=x)(d:x<=18446744073709551615):cb .and (.p (.int .u64 x)) (.p (.int .u64 4294967295))=some (.p (.int .u64 (x%4294967296))):=by
 have e:(BitVec.ofInt IntKind.u64.bits 4294967295).toNat=2^32-1:=by rfl
 have b:((2^IntKind.u64.bits:Nat):Int)=18446744073709551616:=by rfl
 have a:((BitVec.ofInt IntKind.u64.bits x&&&BitVec.ofInt IntKind.u64.bits 4294967295).toNat:Int)=x%4294967296:=by rw[BitVec.toNat_and,e,Nat.and_two_pow_sub_one_eq_mod,BitVec.toNat_ofInt,b];omega
 simp only[cb,ly,gt,true_or,if_true,Option.map_some,a];rw[wrap_u64 (by omega) (by omega)]
theorem ob{x s:Int}(a:0<=s)(c:s<=64):cb .shr (.p (.int .u64 x)) (.p (.int .u64 s))=some (.p (.int .u64 (x/2^s.toNat))):=by have e:min s.toNat IntKind.u64.bits=s.toNat:=Nat.min_eq_left (by show _<=64;omega);have p:(0:Int)<=2^s.toNat:=Int.le_of_lt (Int.pow_pos (by simp));simp only[cb,ly,gt,e,Int.not_lt.2 a,Int.fdiv_eq_ediv_of_nonneg _ p];simp
theorem Ir{x s:Int}(a:0<=s)(c:s<=64):cb .shl (.p (.int .u64 x)) (.p (.int .u64 s))=some (.p (.int .u64 (IntKind.u64.wrap (x*2^s.toNat)))):=by have e:min s.toNat IntKind.u64.bits=s.toNat:=Nat.min_eq_left (by show _<=64;omega);simp only[cb,ly,gt,e,Int.not_lt.2 a,];simp
theorem zS{a b:Int}(c:0<=a)(e:a<=18446744073709551615)(d:0<b):cb .quo (.p (.int .u64 a)) (.p (.int .u64 b))=some (.p (.int .u64 (a/b))):=QS c d (wrap_u64 (Int.ediv_nonneg c (Int.le_of_lt d)) (Int.le_trans (Int.ediv_le_self _ c) e))
theorem TK{x y:Int}(c:0<=x/\x<18446744073709551616)(a:0<=y/\y<18446744073709551616):res Γ 149 [.int .u64 x,.int .u64 y]=some [.int .u64 (x*y/18446744073709551616),.int .u64 (x*y%18446744073709551616)]:=by let⟨g,i,f,d,e,b⟩:=tW c a;rw[<-e]at b⊢;rw[<-di (x*y)];refine ae (fn:=iB) rfl rfl ?_;simp(disch:=first|exact Dq|fail)only[go_sem,iB,kT,xP,wrap_u64]
end Ab
