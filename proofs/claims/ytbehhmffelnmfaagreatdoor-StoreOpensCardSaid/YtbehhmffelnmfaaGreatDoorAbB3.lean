import Derived.Test.YtbehhmffelnmfaaGreatDoorAbZ8
import Derived.Laws.IdiomRangeMap
import Derived.Carry
import Derived.ChangeSame
import Derived.RowKit
set_option linter.all false
namespace Ab
open Go (Addr Calls ChangeSpec DataW Lit MapEntry MemPlace Next Program Result Sem TypeId Value World maxLen undef)
theorem UD{P:Program}{w i:World}{r:Nat}{ty:TypeId}{u:Value}(h:(Go.Instr.next (.pointer (some ⟨r,0,none⟩)) false ty).run P w=.ok u i):i.tape=w.tape:=by simp[Go.Instr.next,Go.getObj,Go.Sem.run]at h;cases p:w.heap[r]? with|none=>simp[p,]at h|some o=>
  cases o<;>simp[p,]at h<;>try(cases h;done)
  rename_i v a d k;cases v with|none=>simp_all|some m=>simp[Go.Sem.run_bind,Go.Sem.run]at h;cases n:w.heap[m]? with|none=>simp[n,Go.Result.andThen]at h|some y=>
    cases y<;>simp only[n,Go.Result.andThen,Go.Sem.run]at h<;>try(cases h;done)
    rename_i z b;split at h;·cases h
    ·simp[Go.choose,Go.Sem.run_bind,Go.Sem.run]at h;generalize A:(Go.Question.mapNext _)=q at h;have c:∀(j:Nat)(g:World),g.tape=w.tape->∀(l:Array (Option MapEntry)),(match l[j]? with|some (some e)=>(do Go.setObj r (.mapIter (some m) a (d.push e.born) b);pure (.tuple #[.bool true,e.key,e.val]):Sem Value)|some none=>pure (.tuple #[.bool false])|none=>Go.stuck "Next: no such candidate").run P g=.ok u i->i.tape=w.tape:=by
      intro j g C l f;split at f;·simp[Go.setObj,Go.Sem.run_bind,Go.Sem.run]at f;cases t:g.heap[r]? with|none=>simp_all|some x=>cases x<;>simp[t,Go.Result.andThen,Go.Sem.run_pure]at f<;>first|grind|grind
      ·simp[Go.Sem.run_pure]at f;grind
      simp_all
     cases s:q.forced with|true=>simp[s,if_true,Go.Result.andThen]at h;exact c _ _ rfl _ h|false=>simp[s,Bool.false_eq_true,if_false,Go.Result.andThen]at h;exact c _ {w with drawn:=w.drawn+1} rfl _ h
def lenV:Value->Nat|.slice _ n _=>n|_=>0
def iV:List MapEntry->Array Nat->Nat|[],_=>0|x::l,seen=>(if seen.contains x.born then lenV x.val else 0)+iV l seen
def qj(l:List MapEntry):Nat:=(l.map λe=>lenV e.val).sum
theorem uL:∀l:List MapEntry,iV l #[]=0|[]=>rfl|x::l=>by simp[iV,uL l]
theorem BX:∀(l:List MapEntry)(a:Array Nat),iV l a<=qj l
 |[],_=>Nat.le_refl _|x::l,a=>by have :=BX l a;simp[iV,qj,]at this⊢;grind
theorem tu(a:Array Nat)(b:Nat):∀(l:List MapEntry),b∉l.map (·.born)->iV l (a.push b)=iV l a
 |[],_=>rfl|x::l,h=>by
  simp only[List.map_cons,List.mem_cons,not_or]at h;have c:(x.born==b)=false:=by grind
  simp only[iV,Go.contains_push,c,Bool.or_false,tu a b l h.2]
theorem uS(a:Array Nat)(e:MapEntry)(d:a.contains e.born=false):∀(l:List MapEntry),(l.map (·.born)).Nodup->e∈l->iV l (a.push e.born)=iV l a+lenV e.val
 |x::l,c,j=>by
  simp only[List.map_cons,List.nodup_cons]at c;simp only[iV,Go.contains_push];by_cases i:x.born=e.born
  ·have b:x=e:=by grind
   subst b;rw[tu a x.born l c.1,d];grind
  ·have h:e∈l:=by grind
   have g:(x.born==e.born)=false:=by grind
   rw[g,Bool.or_false,uS a e d l c.2 h];omega
theorem HU(c:Array MapEntry)(a:Array Nat)(h:(Go.leftOf c a).size=0):iV c.toList a=qj c.toList:=by
 have b:∀e∈c.toList,a.contains e.born=true:=by intro e f;have g:=Array.eq_empty_of_size_eq_zero h;unfold Go.leftOf at g;simp_all
 generalize c.toList=l at b;induction l with|nil=>rfl|cons x l d=>simp only[iV,b x (by simp),];rw[d λe f=>b e (by grind)];rfl
structure UsedOk(P:Program)(f:Nat):Prop where
 enters:Enters P f
 nil:∀w:World,Calls P f #[.pointer none] w λe w'=>e=.returned (.int .i64 0)/\Grows w w'
 none:∀(g:Nat)(arr:Array Value)(t:TypeId)(w:World),w.heap[g]?=some (.cells arr t (0,0))->w.cell? ⟨g,2,none⟩=some (.map none)->Calls P f #[.pointer (some ⟨g,0,none⟩)] w λe w'=>e=.returned (.int .i64 0)/\Grows w w'
 some:∀(g:Nat)(arr:Array Value)(t:TypeId)(bm:Nat)(es:Array MapEntry)(clock:Nat)(w:World),w.heap[g]?=some (.cells arr t (0,0))->w.cell? ⟨g,2,.none⟩=.some (.map (.some bm))->w.heap[bm]?=.some (.map es clock)->Go.MapKept.Stamped es clock->(∀x∈es.toList,∃a n c,x.val=.slice a n c)->qj es.toList<=1000000000000->Calls P f #[.pointer (.some ⟨g,0,.none⟩)] w λe w'=>e=.returned (.int .i64 (qj es.toList:Nat))/\Grows w w'
section


variable{Γ:Ctx}{N:Names}{P:Program}{w:World}{S:Nat->Prop}{μ:Nat->Value}{H:Heap}
theorem IV(g:Rel N.fn w S μ H){v:AV}{u:Value}{n:Nat}(h:RelV N.fn w S μ H v u)(b:jm H false v=some n):∃a c,u=.slice a n c:=by cases v with
 |p q=>cases q<;>simp[jm,]at b;rename_i k sz xs;subst b;have :=h.p_inv;cases this;simp|own i m=>simp only[jm,Option.map_eq_some_iff]at b;obtain⟨⟨sz,xs⟩,d,rfl⟩:=b;rw[h.own_inv d];let⟨f,j,o⟩:=cl d;let⟨_,_,us,⟨_,r⟩,_⟩:=g.blk i _ j;grind|_=>simp[jm]at b
theorem LZ(f:Rel N.fn w S μ H):∀{b:List (PV×AV)}{l:List MapEntry}{n:Nat},MapRel N.fn w S μ H b l->uO H b=some n->(∀x∈l,∃a n c,x.val=.slice a n c)/\qj l=n
 |[],[],n,_,h=>by simp[uO,]at h;subst h;exact⟨by simp,rfl⟩|(k,v)::b,e::l,n,g,h=>by
  simp[uO]at h;split at h
  ·rename_i m d;obtain⟨r,o,rfl⟩:=Option.map_eq_some_iff.1 h;let⟨s,i⟩:=LZ f g.2.2.2 o;let⟨a,c,j⟩:=IV f g.2.2.1 d;refine⟨λx q=>?_,?_⟩;·grind
   ·simp[qj,j,lenV]at i⊢;omega
  grind|[],_::_,_,h,_=>h.elim|(_,_)::_,[],_,h,_=>h.elim
theorem TS{f:Nat}(h:UsedOk P (N.fn f)):RS Γ N P f usedG:=by
 intro args H rs a w S μ us y X I;have Z:∀(n:Int)(o:World),Grows w o->∃G v,(Value.int .i64 n)=iK G/\Grows w o/\(∀g,S g->v g)/\(∀g,v g->g<o.heap.size)/\(∀g,v g->S g\/w.heap.size<=g)/\All2 (λu p=>RelP N.fn o v p u) G [.int .i64 n]:=λn o K=>⟨[.int .i64 n],S,rfl,K,λ_ h=>h,λg a=>Nat.lt_of_lt_of_le (y.lt g a) K.size,λ_ h=>.inl h,.int _ _,trivial⟩;unfold usedG at a;split at a;·simp[]at a;subst a;match us,I with
  |[u],⟨z,_⟩=>
  have e:u=.pointer none:=by have :=z.p_inv;cases this;rfl
  subst e;refine .inl ⟨h.enters _ _,(h.nil w).mono ?_⟩;simp_all
 ·rename_i b;let⟨cs,F,a⟩:=Option.bind_eq_some_iff.1 a;match us,I with
  |[u],⟨z,_⟩=>
  have D:=jo F;obtain⟨g,rfl,hl,A⟩:=z.bx_inv;let⟨g',i,t,L,B,e3,e4,Y⟩:=y.box_of F;rw[A cs D]at L;cases L;have d:∀c,cs[2]?=some c->∃x,w.cell? ⟨g,2,none⟩=some x/\RelV N.fn w S μ H c x:=by
   intro c hc;have C:2<i.size:=by grind
   exact⟨i[2],by simp[World.cell?,B,],by simpa[C]using Y 2 c hc⟩
  unfold usedV at a;split at a;·rename_i m;let⟨es,s,a⟩:=Option.bind_eq_some_iff.1 a;let⟨n,Q,a⟩:=Option.bind_eq_some_iff.1 a;simp[]at a;obtain⟨T,rfl⟩:=a;let⟨x,j,k⟩:=d _ rfl;obtain⟨M,rfl,_,E⟩:=k.mp_inv;let⟨V,q,l,J,U,O,W⟩:=y.map_of s;rw[E _ (eZ s)]at J;cases J;let⟨R,l2⟩:=LZ y W Q;refine .inl ⟨h.enters _ _,(h.some g i t M q l w B j U O R (by grind)).mono ?_⟩;simp_all
  ·simp[]at a;subst a;let⟨x,j,k⟩:=d _ rfl;have e:x=.map none:=by have :=k.p_inv;cases this;rfl
   subst e;refine .inl ⟨h.enters _ _,(h.none g i t w B j).mono ?_⟩;simp_all
  grind
 grind
end
def Sd(P:Program):List Go.Field->Nat->Option Nat|[],k=>some k|f::fs,k=>if f.offset=k then Sd P fs (k+P.cellsOf f.type)else none
def qk(P:Program):Nat->TypeId->Bool|0,_=>false|n+1,t=>match P.underlying t with|some .bool|some (.int _)|some .string=>true|some (.slice e)=>qk P n e&&decide (0<P.cellsOf e)&&(aggB P e).isSome|some (.struct fs)=>(match Sd P fs.toList 0 with|some k=>k==P.cellsOf t|none=>false)&&fs.toList.all λf=>qk P n f.type|_=>false
def okFs(R:TypeId->List PV->Prop):List TypeId->List PV->Prop|[],pcs=>pcs=[]|t::ts,pcs=>∃a b,pcs=a++b/\R t a/\okFs R ts b
def okT(P:Program):Nat->TypeId->List PV->Prop|0,_,_=>False|n+1,t,pcs=>match P.underlying t with|some .bool=>∃b,pcs=[.bool b]|some (.int k)=>∃m,pcs=[.int k m]/\(Lit.int k m).wf=true|some .string=>∃s,pcs=[.str s]/\s.length<=maxLen|some (.slice e)=>∃k xs,pcs=[.sl k (P.cellsOf e) xs]/\xs.length<=maxLen/\((k=.nil/\xs=[])\/k=.mem)/\∀x∈xs,x.one=!((aggB P e).getD true)/\okT P n e x.cells|some (.struct fs)=>okFs (okT P n) (fs.toList.map (·.type)) pcs|_=>False
section


variable{H:Type}{enc:TypeId×Value->H}{P:Program}{N:Names}{w:World}{sp:Nat->Bool}{held:Bool}{S:Nat->Prop}
structure Trees(ν:Nat->Nat)(w:World)(S:Nat->Prop)(pcs:List PV)(cs:List Value):Prop where
 len:pcs.length=cs.length
 one:∀c∈pcs,c.one=true
 rel:∀(j:Nat)c,pcs[j]?=some c->RelP ν w S c (cs.getD j undef)
theorem Trees.single{c:PV}{v:Value}(h:RelP N.fn w S c v)(d:c.one=true):Trees N.fn w S [c] [v]:=⟨rfl,by grind,λj b a=>by grind⟩
theorem Trees.append{a b:List PV}{cs ds:List Value}(e:Trees N.fn w S a cs)(f:Trees N.fn w S b ds):Trees N.fn w S (a++b) (cs++ds):=by
 refine⟨by simp[e.len,f.len],λc d=>?_,λj c d=>?_⟩
 ·rcases List.mem_append.1 d with h|h;·exact e.one c h
  ·exact f.one c h
 ·by_cases g:j<a.length;·rw[List.getElem?_append_left g]at d;have :=e.rel j c d;rwa[List.getD_eq_getElem?_getD,List.getElem?_append_left (by rw[<-e.len];grind),<-List.getD_eq_getElem?_getD]
  ·rw[List.getElem?_append_right (by omega)]at d;have :=f.rel _ c d;rwa[List.getD_eq_getElem?_getD,List.getElem?_append_right (by rw[<-e.len];omega),<-e.len,<-List.getD_eq_getElem?_getD]
theorem cell?_lt{a:Addr}{v:Value}(h:w.cell? a=some v):a.block<w.heap.size:=by unfold World.cell? at h;grind
theorem zG(R:TypeId->List PV->Prop)(cs:List Value)(n F:Nat)(p:∀t(cs:List Value)d ps,qk P n t=true->DataW.trod enc P w 0 sp held F t cs=some (d,ps)->∃b,R t b/\Trees N.fn w S b cs):∀(e:List Go.Field)(k m:Nat)(xs:List (DataW H×List MemPlace)),Sd P e k=some m->(e.all λf=>qk P n f.type)=true->m=cs.length->e.mapM (λf=>DataW.trod enc P w 0 sp held F f.type ((cs.drop f.offset).take (P.cellsOf f.type)))=some xs->k<=m/\∃b,okFs R (e.map (·.type)) b/\Trees N.fn w S b (cs.drop k)
 |[],k,m,xs,c,_,o,_=>by simp[Sd,]at c;subst c;refine⟨Nat.le_refl _,[],rfl,?_⟩;rw[List.drop_of_length_le (by omega)];exact⟨rfl,by simp,by simp⟩|f::e,k,m,xs,c,j,o,l=>by
  simp only[Sd]at c;split at c;rotate_left;·grind
  rename_i s;simp only[List.all_cons,Bool.and_eq_true]at j;simp only[List.mapM_cons,Option.pure_def,Option.bind_eq_bind,Option.bind_eq_some_iff,Option.some.injEq]at l;obtain⟨⟨d,ps⟩,z,ys,i,rfl⟩:=l;let⟨x,b,u,y⟩:=zG R cs n F p e (k+P.cellsOf f.type) m ys c j.2 o i;let⟨a,q,r⟩:=p f.type _ d ps j.1 z;refine⟨by omega,a++b,⟨a,b,rfl,q,u⟩,?_⟩;have :=r.append y;rw[s]at this;rw[<-List.drop_drop,List.take_append_drop]at this;grind
theorem tO(hS:∀g,g<w.heap.size->S g):∀(F n:Nat)(t:TypeId)(cs:List Value)d ps,qk P n t=true->DataW.trod enc P w 0 sp held F t cs=some (d,ps)->∃q,okT P n t q/\Trees N.fn w S q cs
 |0,_,_,_,_,_,_,h=>by simp[DataW.trod]at h|F+1,0,_,_,_,_,r,_=>by cases r|F+1,n+1,t,cs,d,ps,r,h=>by
  simp only[qk]at r;split at r;·rename_i p;obtain⟨b,rfl,_⟩:=DataW.trod_bool p h;exact⟨_,by rw[okT,p];simp,.single (.bool b) rfl⟩
  ·rename_i k p;obtain⟨m,rfl,_,hw⟩:=DataW.trod_int p h;exact⟨_,by rw[okT,p];grind,.single (.int k m) rfl⟩
  ·rename_i p;obtain⟨s,rfl,_,hs⟩:=DataW.trod_string p h;refine⟨_,by rw[okT,p];exact⟨s.data.toList,rfl,by simp[*]⟩,.single ?_ rfl⟩;have :=RelP.str (ν:=N.fn) (w:=w) (S:=S) s.data.toList;omega
  ·rename_i e p;simp[]at r;let⟨⟨r,h0⟩,I⟩:=r;let⟨ag,I⟩:=Option.isSome_iff_exists.1 I;rcases DataW.trod_slice p h with⟨rfl,_⟩|⟨a,z,cap,elems,rest,F',hF,rfl,_,_,hlc,hcm,hel,D,_⟩;·refine⟨[.sl .nil (P.cellsOf e) []],by rw[okT,p];grind,.single ?_ rfl⟩;exact .sl .nil _ [] none 0 (λ_ _=>undef) (Nat.le_refl _) (Nat.zero_le _) (by simp) (by simp) (by simp) (by simp) (by simp) (by simp)
   ·obtain rfl:F=F':=by omega
    have C:∀i,i<z->∃(x:PV)(us:List Value),us.length=P.cellsOf e/\(∀j,j<P.cellsOf e->w.cell? ((a.add (i*P.cellsOf e)).add j)=us[j]?)/\x.one=!ag/\okT P n e x.cells/\Trees N.fn w S x.cells us:=by intro i hi;have :=D i hi;rw[List.getElem?_eq_getElem (by omega)]at this;let⟨us,hus,hd⟩:=Option.bind_eq_some_iff.1 this;let⟨_,R,O⟩:=Go.World.cells?_some hus;let⟨q,G,L⟩:=tO hS F n e us _ _ r hd;cases ag with|true=>exact⟨.agg q,us,R,O,rfl,G,L⟩|false=>
      obtain⟨c,rfl⟩:∃c,q=[c]:=by cases n with|zero=>exact G.elim|succ n=>rw[okT]at G;unfold aggB at I;grind
      have v:=L.one c (by simp);exact⟨c,us,R,O,v,by rw[PV.cells_one v];grind,by rw[PV.cells_one v];grind⟩
    have :∃(xs:List PV)(us:Nat->List Value),xs.length=z/\∀i x,xs[i]?=some x->(us i).length=P.cellsOf e/\(∀j,j<P.cellsOf e->w.cell? ((a.add (i*P.cellsOf e)).add j)=(us i)[j]?)/\x.one=!ag/\okT P n e x.cells/\Trees N.fn w S x.cells (us i):=by refine⟨(List.range z).map λi=>if hi:i<z then(C i hi).choose else .nilp,λi=>if hi:i<z then(C i hi).choose_spec.choose else[],by simp,λi x A=>?_⟩;simp[]at A;obtain⟨i',hi',rfl⟩:=A;let⟨hlt,he⟩:=List.getElem?_eq_some_iff.1 hi';simp[]at hlt;simp[]at he;subst he;grind
    let⟨xs,us,M,B⟩:=this;refine⟨[.sl .mem (P.cellsOf e) xs],by rw[okT,p];refine⟨.mem,xs,rfl,by omega,.inr rfl,λx A=>?_⟩;let⟨i,hi⟩:=List.getElem?_of_mem A;grind,.single ?_ rfl⟩;rw[<-M];refine .sl .mem _ xs (some a) cap (λi j=>(us i).getD j undef) (by omega) hcm (λx A=>?_) (by simp) (by simp) (λhne=>⟨a,rfl,hS _ ?_⟩) (λad had i x j c A hc=>?_) (λi x j c A hc=>?_);·let⟨i,hi⟩:=List.getElem?_of_mem A;let⟨J,_,_,_,K⟩:=B i x hi;exact⟨by rw[K.len,J],K.one⟩
    ·cases xs with|nil=>grind|cons x xs=>let⟨J,E,_,_,_⟩:=B 0 x rfl;have :=E 0 h0;rw[List.getElem?_eq_getElem (by omega)]at this;have :=cell?_lt this;rwa[block_add,block_add]at this
    ·cases had;let⟨J,E,_,_,K⟩:=B i x A;have hj:j<P.cellsOf e:=by rw[<-J,<-K.len];grind
     have :=E j hj;rw[add_add]at this;grind
    ·let⟨_,_,_,_,K⟩:=B i x A;exact K.rel j c hc
  ·rename_i fs p;simp only[Bool.and_eq_true]at r;let⟨Q,hp2⟩:=r;split at Q
   ·rename_i k hk;simp[]at Q;let⟨xs,F',hF,_,hl,M,D⟩:=DataW.trod_struct p h;obtain rfl:F=F':=by omega
    have hm:fs.toList.mapM (λf=>DataW.trod enc P w 0 sp held F f.type ((cs.drop f.offset).take (P.cellsOf f.type)))=some xs:=by
     have key:∀(l:List Go.Field)(ys:List (DataW H×List MemPlace)),ys.length=l.length->(∀(i:Nat)f,l[i]?=some f->DataW.trod enc P w 0 sp held F f.type ((cs.drop f.offset).take (P.cellsOf f.type))=ys[i]?)->l.mapM (λf=>DataW.trod enc P w 0 sp held F f.type ((cs.drop f.offset).take (P.cellsOf f.type)))=some ys:=by intro l;induction l with
      |nil=>simp|cons f l ih=>intro ys J E;cases ys with|nil=>grind|cons y ys=>
        have e0:=E 0 f rfl;simp[]at e0;have e1:=ih ys (by grind) λi g hg=>by simpa using E (i+1) g (by grind)
        grind
     grind
    let⟨_,q,J,E⟩:=zG (N:=N) (S:=S) (okT P n) cs n F (λt cs d ps r hd=>tO hS F n t cs d ps r hd) fs.toList 0 k xs hk hp2 (by omega) hm;refine⟨q,by rw[okT,p];grind,by grind⟩
   grind
  grind
end
def tG(P:Program)(n:Nat)(p:PV)(t:TypeId):Prop:=p.one=!((aggB P t).getD true)/\okT P n t p.cells
section


variable{H:Type}{enc:TypeId×Value->H}{P:Program}{N:Names}{Γ:Ctx}{W:World}
theorem pO{r:Go.Reach}{b:Nat}{t:TypeId}{v:Value}(h:Go.Cell.okWide P W r b t v):v.oneCell'=true:=by unfold Go.Cell.okWide at h;split at h<;>first|rfl|(unfold Go.Cell.ok at h;split at h<;>first|rfl|grind)
theorem EH{v:Value}(h:v.oneCell'=true):v.cells.toList=[v]:=by cases v<;>first|rfl|cases h
theorem arg_tree{S:Nat->Prop}(A:∀g,g<W.heap.size->S g){n:Nat}{t:TypeId}{v:Value}{d:DataW H}{ps:List MemPlace}{b0:Nat}{r:Go.Reach}(x:qk P n t=true)(m:Value.okWide P W r b0 t v)(y:DataW.Trod enc P W 0 (λ_=>true) true t v d ps):∃p,tG P n p t/\RelP N.fn W S p v:=by let⟨F,y⟩:=y;let⟨q,u,l⟩:=tO (N:=N) A F n t _ _ _ x y;cases n with|zero=>cases x|succ n=>
  have i:∀c,q=[c]->aggB P t=some false->v.oneCell'=true->∃p,tG P (n+1) p t/\RelP N.fn W S p v:=by rintro c rfl C z;have w:=l.one c (by simp);refine⟨c,⟨by grind,by rw[PV.cells_one w];grind⟩,?_⟩;have :=l.rel 0 c rfl;rw[EH z]at this;grind
  simp[qk]at x;unfold Value.okWide at m;have a:=u;rw[okT]at a;split at x;·rename_i f;rw[f]at m a;let⟨b,h⟩:=a;exact i _ h (by simp[aggB,f]) (pO m)
  ·rename_i k f;rw[f]at m a;let⟨b,h,_⟩:=a;exact i _ h (by simp[aggB,f]) (pO m)
  ·rename_i f;rw[f]at m a;let⟨b,h,_⟩:=a;exact i _ h (by simp[aggB,f]) (pO m)
  ·rename_i e f;rw[f]at m a;let⟨_,_,h,_⟩:=a;exact i _ h (by simp[aggB,f]) (pO m)
  ·rename_i D f;rw[f]at m;obtain⟨cs,rfl,_,_⟩:=m;refine⟨.agg q,⟨by simp[aggB,f,PV.one],u⟩,.agg q cs ?_ l.one (λj c B=>?_)⟩;·have :=l.len;simpa[Value.cells]using this.symm
   ·have :=l.rel j c B;rwa[show(Value.agg cs).cells.toList=cs.toList from rfl,getD_toList]at this
  grind
theorem BC{S:Nat->Prop}(m:∀g,g<W.heap.size->S g){n:Nat}{b0:Nat}{r:Go.Reach}:∀{ts:List TypeId}{e:List Value}{ds:List (DataW H)}{ps:List MemPlace},ts.all (qk P n)=true->(∀(j:Nat)t v,ts[j]?=some t->e[j]?=some v->Value.okWide P W r b0 t v)->DataW.TrodAll enc P W 0 (λ_=>true) true ts e ds ps->∃a,All2 (tG P n) a ts/\All2 (λu p=>RelP N.fn W S p u) e a/\ds.length=ts.length
 |[],[],[],_,_,_,_=>⟨[],trivial,trivial,rfl⟩|t::ts,v::e,d::ds,ps,k,l,h=>by let⟨p,q,y,w,_⟩:=h;simp only[List.all_cons,Bool.and_eq_true]at k;let⟨x,f,i⟩:=arg_tree (N:=N) m k.1 (l 0 t v rfl rfl) y;let⟨xs,b,c,A⟩:=BC m k.2 (λj t v z s=>l (j+1) t v (by grind) (by grind)) w;exact⟨x::xs,⟨f,b⟩,⟨i,c⟩,by grind⟩|[],[],_::_,_,_,_,h=>by cases h|[],_::_,_,_,_,_,h=>by simp[DataW.TrodAll]at h|_::_,[],_,_,_,_,h=>by simp[DataW.TrodAll]at h|_::_,_::_,[],_,_,_,h=>by simp[DataW.TrodAll]at h
theorem Ga(j:Go.laidOutB P=true){i:World}(a:Grows W i){k:Nat->Bool}:∀{ts:List TypeId}{g:List Value}{ds:List (DataW H)}{ps:List MemPlace},ts.all (λt=>P.readableRec t&&decide (t<P.types.size))=true->DataW.TrodAll enc P W 0 (λ_=>true) true ts g ds ps->(∀x∈ps,x.block<W.heap.size)->(∀x∈ps,k x.block=true)->DataW.TrodAll enc P i 0 k true ts g ds ps
 |[],[],[],_,_,h,_,_=>h|t::ts,v::g,d::ds,ps,e,h,c,b=>by obtain⟨p,q,l,o,rfl⟩:=h;simp only[List.all_cons,Bool.and_eq_true,decide_eq_true_eq]at e;have m:Go.RowKit.Below W.heap.size W i:=⟨a.os,a.tape,a.output,a.size,a.keep⟩;exact⟨p,q,Go.WideElems.Trod_stays j e.1.1 e.1.2 l (λx f=>m.same (c x (by grind))) (λx f=>b x (by grind)),Ga j a e.2 o (λx f=>c x (by grind)) (λx f=>b x (by grind)),rfl⟩|[],[],_::_,_,_,h,_,_=>by cases h|[],_::_,_,_,_,h,_,_=>by simp[DataW.TrodAll]at h|_::_,[],_,_,_,h,_,_=>by simp[DataW.TrodAll]at h|_::_,_::_,[],_,_,h,_,_=>by simp[DataW.TrodAll]at h
end
theorem PU{H:Type}{enc:TypeId×Value->H}{P:Program}{f:Go.Func}{s:ChangeSpec}{c l g k:Bool}{W n:World}{args:Array Value}{v:Value}{ds gs:List (DataW H)}{before pa pv:List MemPlace}(w:DataW.Whole enc P f.params.toList s.vars c W args.toList ds gs before)(h:∀(b:Nat)(m:Nat->Bool)(B:Bool),DataW.TrodAll enc P n b m B f.resultTypes.toList (v.resultList f.resultTypes.size) (s.fn H (ds++gs)).results [])(e:∀m:Nat->Bool,(∀p∈before,m p.block=true)->DataW.TrodAll enc P n 0 m true f.params.toList args.toList (s.fn H (ds++gs)).args pa)(d:∀m:Nat->Bool,(∀p∈before,m p.block=true)->DataW.TrodVars enc P n m s.vars (s.fn H (ds++gs)).vars pv)(A:before=pa++pv)(y:W.keptBut n (·∈before))(u:∀p∈before,∀b a,p=.cell b a->n.frozen? ⟨b,a,none⟩=W.frozen? ⟨b,a,none⟩)(x:∀(j:Nat)(t:TypeId)(r:Value),f.resultTypes[j]?=some t->(v.resultList f.resultTypes.size)[j]?=some r->Value.okWide P n .any 0 t r):s.post enc P f c l g k W args v n:=by
 have i:∀p∈before,(λb=>decide (b<W.heap.size)) p.block=true:=λp q=>by simpa using w.lt p q
 refine⟨ds,gs,before,[],pa,pv,w,h _ _ _,e _ i,d _ i,World.keptBut_mono (λp q=>⟨q,?_⟩) y,λ_=>?_⟩;·grind
 ·let⟨_,_,_,_,_,z,C⟩:=w;refine⟨x,_,_,([]++pa)++pv,⟨[]++pa,pv,Go.ChangeShapes.trodAll_append (e _ (λ_ _=>rfl)) (h _ _ _),d _ (λ_ _=>rfl),rfl,?_,?_⟩,?_⟩
  ·intro b a q;have o:MemPlace.cell b a∈before:=by grind
   rw[u _ o b a rfl];exact z b a o
  all_goals grind
section


variable{H:Type}{enc:TypeId×Value->H}{P:Program}{N:Names}{Γ:Ctx}{W:World}
theorem enters_of{f:Nat}{g:Go.Func}(d:P.funcs[f]?=some g)(b:(g.name== "runtime.NumGoroutine")=false)(c:g.body.isNone=false):Enters P f:=λus w=>by simp[]at b;simp only[Go.callFunc,Go.Sem.run_bind,Go.run_program,Go.Result.andThen_ok,d,c,Bool.false_eq_true,if_false,beq_iff_eq,b,Go.Sem.run_pure]
theorem QP(K:Known Γ N P){f lf n:Nat}{fn:Go.Func}{tb:TypeId}{s:ChangeSpec}{d A i B:Bool}{args:Array Value}{ds gs:List (DataW H)}{before:List MemPlace}{b0:Nat}{r:Go.Reach}(hN:N.fn lf=f)(hE:Enters P f)(R:GlRel Γ N W λg=>g<W.heap.size)(hp:fn.params.toList.all (qk P n)=true)(L:fn.params.toList.all (λt=>P.readableRec t&&decide (t<P.types.size))=true)(hl:Go.laidOutB P=true)(w:fn.resultTypes=#[tb])(G:P.underlying tb=some .bool)(k:s.vars=[])(c:∀ds:List (DataW H),ds.length=fn.params.toList.length->s.fn H ds={results:=[.lit (.bool true)],args:=ds})(M:∀a,All2 (tG P n) a fn.params.toList->∃m h,callOf Γ (ev Γ m) lf (a.map .p) []=some ([.p (.bool true)],h))(E:∀(j:Nat)t v,fn.params[j]?=some t->args[j]?=some v->Value.okWide P W r b0 t v)(Q:DataW.Whole enc P fn.params.toList s.vars d W args.toList ds gs before):Calls P f args W λe z=>∃v,e=.returned v/\s.post enc P fn d A i B W args v z:=by
 have F:=Q.lt;have O:=Q;obtain⟨p,q,hA,hV,rfl,hz,_⟩:=O;let⟨a,U,X,y⟩:=BC (N:=N) (S:=λg=>g<W.heap.size) (λ_ h=>h) hp (λj t v ht Z=>E j t v (by grind) (by grind)) hA;let⟨m,h,C⟩:=M a U;have o:=RL K (T:=λg=>g<W.heap.size) (λ_ h=>h) R X C (rs:=[.bool true]) rfl;rw[hN]at o;have Y:gs=[]/\q=[]:=by rw[k]at hV;cases gs<;>simp_all[DataW.TrodVars]
 obtain⟨rfl,rfl⟩:=Y;have l:Calls P f args W λe z=>∃v,e=.returned v/\(∃I,v=iK I/\Grows W z/\All2 (λu p=>RelP N.fn z (λg=>g<W.heap.size\/(W.heap.size<=g/\g<z.heap.size)) p u) I [.bool true]):=by
  rcases o with⟨_,h⟩|⟨v,w',h,_⟩;·omega
  ·rw[hE]at h;grind
 refine l.mono ?_;rintro e z⟨v,rfl,I,rfl,D,Z⟩;match I,Z with
 |[u],⟨hu,_⟩=>
  cases hu;have hb:Go.RowKit.Below W.heap.size W z:=⟨D.os,D.tape,D.output,D.size,D.keep⟩;refine⟨_,rfl,PU (pa:=p) (pv:=[]) Q (λb sp hd=>?_) (λsp V=>?_) (λ_ _=>?_) rfl (hb.frame _) (λx J b off e=>?_) (Go.RowKit.ok_one w rfl (Go.RowKit.okWide_bool_mk G _))⟩;·rw[List.append_nil,c ds y,w];exact⟨[],[],Go.RowKit.shut_bool G _,rfl,rfl⟩
  ·rw[List.append_nil,c ds y];exact Ga hl D L hA (λx J=>F x (by grind)) (λx J=>V x (by grind))
  ·rw[List.append_nil,c ds y,k];rfl
  ·subst e;exact hb.frozen (F _ J)
end
end Ab
