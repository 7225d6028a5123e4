import Derived.Test.YtbehhmffelnmfaaGreatDoorAbQ2
import Derived.Laws.BytesArg
import Derived.Laws.CopyOwn
set_option linter.all false
namespace Ab
def All2{α β:Type}(R:α->β->Prop):List α->List β->Prop|[],[]=>True|x::xs,y::ys=>R x y/\All2 R xs ys|_,_=>False
theorem All2.imp{e b:Type}{R a:e->b->Prop}(h:∀x y,R x y->a x y):∀{xs ys},All2 R xs ys->All2 a xs ys|[],[],_=>trivial|_::_,_::_,⟨c,d⟩=>⟨h _ _ c,All2.imp h d⟩|[],_::_,h=>h.elim|_::_,[],h=>h.elim
open Go (IntKind BinOp UnOp World Value Addr Obj undef maxLen Program TypeId Oper Op Operand Act Sem Next Result execOp Builtin)
section


variable{Γ:Ctx}{N:Names}{P:Program}{w:World}{S:Nat->Prop}{μ:Nat->Value}{H:Heap}{σ:Nat->AV}{a:Act}
theorem foldl_set(a:Nat):∀(l:List Value)(k:Nat)(cs:Array Value),a+k+l.length<=cs.size->((l.zipIdx k).foldl (λcs(x:Value×Nat)=>cs.setIfInBounds (a+x.2) x.1) cs).size=cs.size/\∀j,((l.zipIdx k).foldl (λcs(x:Value×Nat)=>cs.setIfInBounds (a+x.2) x.1) cs).getD j undef=if a+k<=j/\j<a+k+l.length then l.getD (j-(a+k)) undef else cs.getD j undef
 |[],k,cs,_=>⟨rfl,λj=>by simp;omega⟩|v::l,k,cs,h=>by
  simp[]at h;let⟨f,e⟩:=foldl_set a l (k+1) (cs.setIfInBounds (a+k) v) (by grind);simp only[List.zipIdx_cons,List.foldl_cons];refine⟨by grind,λj=>?_⟩;rw[e j];by_cases d:j=a+k
  ·subst d;rw[if_neg (by omega),if_pos (by simp)];have :a+k<cs.size:=by omega
   simp[*]
  ·by_cases c:a+(k+1)<=j/\j<a+(k+1)+l.length;·grind
   ·rw[if_neg c,if_neg (by grind)];simp[];grind
structure CellsRel(ν:Nat->Nat)(w:World)(S:Nat->Prop)(μ:Nat->Value)(H:Heap)(cs:List AV)(us:Array Value):Prop where
 size:us.size=cs.length
 one:∀c∈cs,c.one=true
 rel:∀j c,cs[j]?=some c->RelV ν w S μ H c (us.getD j undef)
theorem mi(d:Nat->Option (Nat×Nat)):∀(parts:List (Nat×Value))(b:List (Nat×Nat×AV))(cs k:List AV)(us:Array Value),CellsRel N.fn w S μ H cs us->All2 (λ(x:Nat×Value)(y:Nat×Nat×AV)=>d x.1=some (y.1,y.2.1)/\RelV N.fn w S μ H y.2.2 x.2) parts b->lz cs b=some k->∃l,Go.Instr.fill d us parts=some l/\CellsRel N.fn w S μ H k l
 |[],[],cs,k,us,h,_,p=>by simp[lz,]at p;subst p;exact⟨us,rfl,h⟩|(i,v)::parts,(a,sz,u)::b,cs,k,us,h,m,p=>by
  let⟨⟨K,q⟩,m⟩:=m;simp only[lz,Option.ite_none_right_eq_some]at p;let⟨⟨s,D,G⟩,p⟩:=p;let⟨J,M,O⟩:=q.cells s;have o:v.cells.size=sz:=by grind
  have e:(decide (v.cells.size≠sz)||decide (a+v.cells.size>us.size))=false:=by rw[Bool.or_eq_false_iff];exact⟨decide_eq_false (by omega),decide_eq_false (by rw[o,h.size];omega)⟩
  have n:(v.cells.zipIdx.foldl (λcs(x:Value×Nat)=>cs.setIfInBounds (a+x.2) x.1) us)=(v.cells.toList.zipIdx 0).foldl (λcs(x:Value×Nat)=>cs.setIfInBounds (a+x.2) x.1) us:=by rw[<-Array.foldl_toList,Array.toList_zipIdx]
  let⟨B,A⟩:=foldl_set a v.cells.toList 0 us (by grind);generalize z:(v.cells.toList.zipIdx 0).foldl (λcs(x:Value×Nat)=>cs.setIfInBounds (a+x.2) x.1) us=r at n B A;have g:CellsRel N.fn w S μ H (cs.take a++u.cells++cs.drop (a+sz)) r:=by
   refine⟨by rw[B,h.size];grind,λc f=>?_,λj c f=>?_⟩
   ·simp only[List.mem_append]at f;rcases f with(f|f)|f;·exact h.one c (List.mem_of_mem_take f)
    ·grind
    ·exact h.one c (List.mem_of_mem_drop f)
   ·rw[A j];simp only[Array.length_toList,];have t:(cs.take a).length=a:=by grind
    by_cases F:j<a;·rw[if_neg (by omega)];rw[List.append_assoc,List.getElem?_append_left (by omega)]at f;exact h.rel j c (jB f).2
    ·by_cases E:j<a+sz;·rw[if_pos (by omega)];rw[List.append_assoc,List.getElem?_append_right (by omega),t,List.getElem?_append_left (by omega)]at f;simp_all
     ·rw[if_neg (by omega)];rw[List.append_assoc,List.getElem?_append_right (by omega),t,List.getElem?_append_right (by omega),List.getElem?_drop]at f;rw[show a+sz+(j-a-u.cells.length)=j by omega]at f;exact h.rel j c f
  let⟨l,L,C⟩:=mi d parts b _ k r g m p;refine⟨l,?_,C⟩;simp[Go.Instr.fill,];grind|[],_::_,_,_,_,_,m,_=>m.elim|_::_,[],_,_,_,_,m,_=>m.elim
theorem lN{b:List Value}{ps:List PV}(h:vq b ps=true):CellsRel N.fn w S μ H (ps.map .p) b.toArray:=by
 let⟨g,e,f⟩:=mF (ν:=N.fn) (w:=w) (S:=S) h;refine⟨by grind,λc a=>?_,λj c a=>?_⟩;·obtain⟨x,d,rfl⟩:=List.mem_map.1 a;exact e x d
 ·rw[List.getElem?_map]at a;obtain⟨x,d,rfl⟩:=Option.map_eq_some_iff.1 a;exact .p _ _ (by simp_all)
def Bc(P:Program)(T:TypeId)(zero:List PV):Bool:=match(P.info? T).bind (·.zero)with|some z=>vq z.cells.toList zero|none=>false
theorem tS{T zero}(h:Bc P T zero=true):∃z,(∀w,(Go.zeroValue T).run P w=.ok z w)/\CellsRel N.fn w S μ H (zero.map .p) z.cells:=by
 unfold Bc at h;split at h;·rename_i z a;let⟨i,hi,a⟩:=Option.bind_eq_some_iff.1 a;exact⟨z,λw=>by simp[Go.zeroValue,Go.typeInfo,hi,a],by have :=lN (N:=N) (w:=w) (S:=S) (μ:=μ) (H:=H) h;omega⟩
 grind
def EJ(P:Program)(T:TypeId)(i:Nat):Option (Nat×Nat):=match P.underlying T with|some (.struct fs)=>(fs[i]?).bind λf=>((P.info? f.type).map (·.size)).map λs=>(f.offset,s)|some (.array _ e)=>((P.info? e).map (·.size)).map λs=>(i*s,s)|_=>none
def qH(P:Program)(T:TypeId):Bool:=match P.underlying T with|some (.struct fs)=>fs.all λf=>(P.info? f.type).isSome|some (.array _ e)=>(P.info? e).isSome|_=>false
theorem run_places(b:Array Go.Field)(h:b.all (λf=>(P.info? f.type).isSome)=true):∃ps:Array (Nat×Nat),(b.mapM λ(f:Go.Field)=>(do pure (f.offset,<-Go.sizeOf f.type):Sem (Nat×Nat))).run P w=.ok ps w/\∀i:Nat,ps[i]?=(b[i]?).bind λ(f:Go.Field)=>((P.info? f.type).map (·.size)).map λs=>(f.offset,s):=by
 have c:∀(l:List Go.Field),(∀f∈l,(P.info? f.type).isSome=true)->(l.mapM λ(f:Go.Field)=>(do pure (f.offset,<-Go.sizeOf f.type):Sem (Nat×Nat))).run P w=.ok (l.map λf=>(f.offset,((P.info? f.type).map (·.size)).getD 0)) w:=by intro l;induction l with|nil=>simp|cons f l g=>intro d;let⟨i,hi⟩:=Option.isSome_iff_exists.1 (d f (by simp));rw[List.mapM_cons];simp only[Go.Sem.run_bind,run_sizeOf (P:=P) (w:=w) (sz:=i.size) (T:=f.type) (by grind),Go.Result.andThen_ok,Go.Sem.run_pure,g (λx m=>d x (by grind))];grind
 refine⟨(b.toList.map λf=>(f.offset,((P.info? f.type).map (·.size)).getD 0)).toArray,?_,λi=>?_⟩;·have :=c b.toList (λf k=>by simpa using Array.all_eq_true'.1 h f (by grind));rw[<-Array.toArray_toList (xs:=b),List.mapM_toArray];simp_all
 ·simp[];cases k:b[i]? with|none=>rfl|some f=>
   have :(P.info? f.type).isSome=true:=by grind
   let⟨j,n⟩:=Option.isSome_iff_exists.1 this;grind
theorem q_build{T:TypeId}{zero:List PV}{parts:List (Nat×Value)}{a:List (Nat×Nat×AV)}{c:List AV}(A:Bc P T zero=true)(j:qH P T=true)(r:All2 (λ(x:Nat×Value)(y:Nat×Nat×AV)=>EJ P T x.1=some (y.1,y.2.1)/\RelV N.fn w S μ H y.2.2 x.2) parts a)(o:lz (zero.map .p) a=some c):∃u,(Go.Instr.build T parts.toArray).run P w=.ok u w/\RelV N.fn w S μ H (mkAgg c) u:=by
 let⟨z,m,q⟩:=tS (N:=N) (w:=w) (S:=S) (μ:=μ) (H:=H) A;unfold qH at j;split at j
 ·rename_i t b;let⟨ps,s,v⟩:=run_places (w:=w) t j;have e:∀i:Nat,ps[i]?=EJ P T i:=λi=>by rw[v i];simp[EJ,b]
  let⟨d,l,f⟩:=mi (λi=>ps[i]?) parts a _ c z.cells q (All2.imp (λx y h=>⟨by grind,h.2⟩) r) o;refine⟨.agg d,?_,RelV.mkAgg f.size f.one f.rel⟩;simp only[Go.Instr.build,Go.Sem.run_bind,m,Go.Result.andThen_ok,Go.run_underlying b,s,l,Go.Sem.run_pure]
 ·rename_i n e b;let⟨i,hi⟩:=Option.isSome_iff_exists.1 j;let⟨d,l,f⟩:=mi (λk=>some (k*i.size,i.size)) parts a _ c z.cells q (All2.imp (λx y h=>⟨by rw[<-h.1];simp[EJ,b,hi],h.2⟩) r) o;refine⟨.agg d,?_,RelV.mkAgg f.size f.one f.rel⟩;simp[Go.Instr.build,m,Go.run_underlying b,run_sizeOf (P:=P) (w:=w) (T:=e) (sz:=i.size) (by grind),l]
 grind
theorem qF{cs:List AV}{ps:List PV}{us:Array Value}(b:iT cs=some ps)(h:CellsRel N.fn w S μ H cs us):us.size=ps.length/\(∀c∈ps,c.one=true)/\∀j c,ps[j]?=some c->RelP N.fn w S c (us.getD j undef):=by have e:=jq b;subst e;refine⟨by simpa using h.size,λc a=>h.one (.p c) (List.mem_map_of_mem a),λj c a=>?_⟩;exact(h.rel j (.p c) (by grind)).p_inv
theorem qZ{sz:Nat}{ag:Bool}(e:ag=false->sz=1):∀(n:Nat)(ps:List PV),ps.length=n*sz->(∀c∈ps,c.one=true)->(chunks sz ag n ps).length=n/\∀i x,(chunks sz ag n ps)[i]?=some x->x.cells.length=sz/\(∀c∈x.cells,c.one=true)/\∀j c,x.cells[j]?=some c->ps[i*sz+j]?=some c
 |0,ps,_,_=>⟨rfl,by simp[chunks]⟩|n+1,ps,h,d=>by
  have g:ps.length=n*sz+sz:=by grind
  let⟨k,p⟩:=qZ e n (ps.drop sz) (by grind) (λc b=>d c (List.mem_of_mem_drop b));refine⟨by simp[chunks,k],λi x a=>?_⟩;cases i with
  |zero=>simp[chunks,]at a;cases ag with|true=>simp[]at a;subst a;refine⟨by simp[PV.cells];omega,λc b=>d c (List.mem_of_mem_take b),λj c b=>?_⟩;simp[PV.cells]at b;grind|false=>have :=e rfl;subst this;simp[]at a;match ps,g,d with
    |o::ps,_,d=>simp[]at a;subst a;have m:=d o (by simp);rw[PV.cells_one m];grind|[],g,_=>grind
  |succ i=>simp[chunks,]at a;grind
theorem RelP.ofBlock{ν:Nat->Nat}{a:World}{d:Nat->Prop}{sz n cap g:Nat}{e:TypeId}{ag:Bool}{ps:List PV}{us:Array Value}{o:Nat×Nat}{k:SK}(f:ag=false->sz=1)(b:ps.length=n*sz)(s:k≠.nil)(p:n<=cap)(w:cap<=maxLen)(E:k=.tight->cap=n)(y:d g)(v:a.heap[g]?=some (.cells us e o))(B:n*sz<=us.size)(r:∀c∈ps,c.one=true)(A:∀(j:Nat)c,ps[j]?=some c->RelP ν a d c (us.getD j undef)):RelP ν a d (.sl k sz (chunks sz ag n ps)) (.slice (some ⟨g,0,none⟩) n cap):=by
 let⟨z,C⟩:=qZ (ag:=ag) f n ps b r;have t:RelP ν a d (.sl k sz (chunks sz ag n ps)) (.slice (some ⟨g,0,none⟩) (chunks sz ag n ps).length cap):=by
  refine .sl _ _ _ _ _ (λi j=>us.getD (i*sz+j) undef) (by omega) w (λx m=>?_) (λh=>h.elim (λh=>absurd h s) (λh=>by grind)) (λh=>⟨rfl,λh=>by grind⟩) (λ_=>⟨_,rfl,y⟩) (λD l i x j c m q=>?_) (λi x j c m q=>?_);·let⟨i,hi⟩:=List.getElem?_of_mem m;grind
  ·cases l;have u:i*sz+j<us.size:=by grind
   rw[Addr.add_lit,Go.cell_of_row a g _ us e o v];simp[*]
  grind
 grind
def uC(P:Program)(e:TypeId)(m:Nat)(zero:List PV):Bool:=match(P.info? e).bind (·.zero)with|some z=>vq (if m=0 then#[]else(Array.range m).map λi=>z.cells[i%z.cells.size]!).toList zero|none=>false
theorem q_bslice{T e:TypeId}{sz n:Nat}{ag:Bool}{zero:List PV}{parts:List (Nat×Value)}{a:List (Nat×Nat×AV)}{v:AV}(F:∀g,S g->g<w.heap.size)(I:slT P T=some e)(G:(P.info? e).map (·.size)=some sz)(m:0<sz)(s:ag=false->sz=1)(R:n*sz<=2^24)(A:uC P e (n*sz) zero=true)(L:All2 (λ(x:Nat×Value)(y:Nat×Nat×AV)=>(x.1*sz,sz)=(y.1,y.2.1)/\RelV N.fn w S μ H y.2.2 x.2) parts a)(b:xi sz ag n (lz (zero.map .p) a)=some v):∃us,(Go.Instr.buildSlice T n parts.toArray).run P w=.ok (.slice (some ⟨w.heap.size,0,none⟩) n n) (w.alloc (.cells us e))/\RelV N.fn (w.alloc (.cells us e)) (λg=>S g\/g=w.heap.size) μ H v (.slice (some ⟨w.heap.size,0,none⟩) n n):=by
 unfold xi at b;let⟨cs,D,b⟩:=Option.bind_eq_some_iff.1 b;let⟨ps,r,b⟩:=Option.bind_eq_some_iff.1 b;simp[]at b;obtain⟨l,rfl⟩:=b;unfold uC at A;split at A;rotate_left;·grind
 rename_i z B;let⟨i,hi,t⟩:=Option.bind_eq_some_iff.1 B;have f:=lN (N:=N) (w:=w) (S:=S) (μ:=μ) (H:=H) A;rw[Array.toArray_toList]at f;let⟨us,q,E⟩:=mi (λk=>some (k*sz,sz)) parts a _ cs _ f (All2.imp (λx y h=>⟨by grind,h.2⟩) L) D;let⟨Q,J,O⟩:=qF r E;refine⟨us,?_,.p _ _ (RelP.ofBlock s l (by simp) (Nat.le_refl _) ?_ (λ_=>rfl) (.inr rfl) (Go.heap_alloc_new w _) (by omega) J (λj c C=>(O j c C).keep (λ_ h=>.inl h) (λg M=>Go.RowKit.Below.heap_alloc w _ g (F g M))))⟩
 ·have u:¬(n*sz>2^24):=by omega
  simp only[Go.Instr.buildSlice,Go.Sem.run_bind,Go.run_underlying (cZ I),Go.Result.andThen_ok,run_sizeOf G,if_neg u];by_cases o:n*sz=0
  ·rw[if_pos o]at q;simp only[o,if_true];rw[Go.Sem.run_bind];simp only[Go.Sem.run_pure,Go.Result.andThen_ok];have K:(Array.range 0).map (λx=>(#[]:Array Value)[x%(#[]:Array Value).size]!)=#[]:=by simp
   rw[K,q];rfl
  ·rw[if_neg o]at q;simp[o,Go.zeroValue,Go.typeInfo,hi,t,];rw[q];rfl
 ·have :n*1<=n*sz:=Nat.mul_le_mul_left _ m;simp[maxLen];omega
theorem q_minmax{mx:Bool}{c:List Value}{d:List AV}{v:AV}{t0:TypeId}{ts:Array TypeId}(g:All2 (λx y=>RelV N.fn w S μ H y x) c d)(b:minmax mx d=some v):∃u,(if mx then Go.Builtin.max_ ts t0 c.toArray else Go.Builtin.min_ ts t0 c.toArray).run P w=.ok u w/\RelV N.fn w S μ H v u:=by
 unfold minmax at b;split at b;·match c,g with
  |[x,y],⟨f,e,_⟩=>
   rw[RelV.int_inv f,RelV.int_inv e];simp[]at b;subst b;cases mx;·exact⟨_,by rfl,.p _ _ (.int _ _)⟩
   ·refine⟨_,?_,.p _ _ (.int _ _)⟩;rfl
 ·match c,g with
  |[x,y,z],⟨f,e,h,_⟩=>
   rw[RelV.int_inv f,RelV.int_inv e,RelV.int_inv h];simp[]at b;subst b;cases mx;·exact⟨_,by rfl,.p _ _ (.int _ _)⟩
   ·refine⟨_,?_,.p _ _ (.int _ _)⟩;rfl
 grind
theorem q_clos{f:Nat}{cs:List AV}{us:List Value}(m:All2 (λx y=>RelV N.fn w S μ H y x) us cs)(i:∀c∈cs,c.one=true):RelV N.fn w S μ H (UN f cs) (.func (.func (N.fn f)) #[] us.toArray):=by
 have d:∀{us:List Value}{cs:List AV},All2 (λx y=>RelV N.fn w S μ H y x) us cs->us.length=cs.length/\∀j c,cs[j]?=some c->RelV N.fn w S μ H c (us.getD j undef):=by intro us;induction us with
  |nil=>intro cs h;cases cs with|nil=>simp|cons=>exact h.elim
  |cons u us k=>intro cs h;cases cs with|nil=>exact h.elim|cons c cs=>let⟨k1,k2⟩:=k h.2;refine⟨by grind,λj n a=>?_⟩;cases j with|zero=>simp[]at a;subst a;simpa using h.1|succ j=>grind
 let⟨k1,k2⟩:=d m;unfold UN;split;·rename_i ps l;have e:=jq l;subst e;refine .p _ _ (.clo _ _ _ (by grind) (λc a=>i (.p c) (List.mem_map_of_mem a)) (λj c a=>?_));have :=k2 j (.p c) (by grind);simpa using this.p_inv
 ·exact .clo _ _ _ (by grind) i (λj c a=>by simp_all)
theorem oE:∀{xs:List PV}{s},bytesIn xs=some s->∃ns:List Int,xs=ns.map (PV.int .u8)/\s=ns.map λn=>UInt8.ofNat n.toNat
 |[],s,h=>by simp[bytesIn,]at h;simp[*]|x::xs,s,h=>by
  unfold bytesIn at h;split at h;·grind
  ·rename_i n r e;cases e;obtain⟨c,b,rfl⟩:=Option.map_eq_some_iff.1 h;let⟨ns,f,d⟩:=oE b;exact⟨n::ns,by grind,by grind⟩
  grind
theorem zg:∀(ns:List Int)(l:List UInt8),ns.foldl (λr n=>r.push (UInt8.ofNat n.toNat)) (ByteArray.mk l.toArray)=⟨(l++ns.map λn=>UInt8.ofNat n.toNat).toArray⟩
 |[],l=>by simp|n::ns,l=>by
  have e:(ByteArray.mk l.toArray).push (UInt8.ofNat n.toNat)=⟨(l++[UInt8.ofNat n.toNat]).toArray⟩:=by apply ByteArray.ext;simp
  rw[List.foldl_cons,e,zg ns];simp
theorem ol{s e d:TypeId}{x:Option Addr}{n cap:Nat}{ns:List Int}(g:slT P s=some e)(i:intT P e=some .u8)(k:strT P d=true)(c:ns.length=n)(l:∀b,x=some b->∀j v,ns[j]?=some v->w.cell? (b.add j)=some (.int .u8 v))(h:x=none->n=0):(Go.convert s d (.slice x n cap)).run P w=.ok (.string ⟨(ns.map λn=>UInt8.ofNat n.toNat).toArray⟩) w:=by rw[Go.run_convert_bytes_string w s d e x n cap (cZ g) (ow i) (gT k)];cases x with
 |none=>have :=h rfl;subst this;have :=List.eq_nil_of_length_eq_zero c;subst this;rfl|some b=>
  have f:=Go.run_loadCells_list (P:=P) w b (ns.map (Value.int .u8)) (λj v o=>by grind);rw[List.length_map,c]at f;rw[Go.run_bytesToString w b n cap ns f];have :=zg ns [];simp[]at this;rw[<-this];rfl
theorem q_strOf{s e d:TypeId}{x:Value}{J v:AV}(X:Rel N.fn w S μ H)(y:slT P s=some e)(z:intT P e=some .u8)(C:strT P d=true)(q:RelV N.fn w S μ H J x)(b:zw H J=some v):∃u,(Go.convert s d x).run P w=.ok u w/\RelV N.fn w S μ H v u:=by
 unfold zw at b;split at b;·rename_i k sz xs;simp only[Option.ite_none_right_eq_some]at b;obtain⟨rfl,b⟩:=b;obtain⟨t,D,rfl⟩:=Option.map_eq_some_iff.1 b;obtain⟨ns,rfl,rfl⟩:=oE D;have q:=q.p_inv;generalize B:ns.map (PV.int .u8)=xs at q;cases q with|sl _ _ _ a cap us F K h T E r A O=>
  subst B;refine⟨_,ol y z C (by simp) (λG c j m M=>?_) (λZ=>?_),.p _ _ (.str _)⟩
  ·have I:(ns.map (PV.int .u8))[j]?=some (.int .u8 m):=by grind
   have U:=A G c j _ 0 _ I rfl;rw[(O j _ 0 _ I rfl).int_inv]at U;grind
  grind
 ·rename_i R n;let⟨⟨sz,xs⟩,L,b⟩:=Option.bind_eq_some_iff.1 b;simp only[Option.ite_none_right_eq_some]at b;obtain⟨rfl,b⟩:=b;obtain⟨t,D,rfl⟩:=Option.map_eq_some_iff.1 b;obtain⟨ns,rfl,rfl⟩:=oE D;rw[q.own_inv L];let⟨f,F,K⟩:=cl L;let⟨_,_,us,h,T,E,_⟩:=X.blk R _ F;have l:=h;let⟨V,h⟩:=h;simp only[List.length_map]at K h V l;rcases h with⟨r,a0,A⟩|⟨g,cap,Q,Y,r,_⟩;·rw[A];have :=List.eq_nil_of_length_eq_zero r;subst this;exact⟨_,ol (ns:=[]) y z C rfl (by simp) (λ_=>rfl),.p _ _ (.str _)⟩
  ·rw[r];refine⟨_,ol y z C rfl (λG c j m M=>?_) (by simp),.p _ _ (.str _)⟩;cases c;have W:=(List.getElem?_eq_some_iff.1 M).1;rw[Addr.add_lit,Nat.zero_add,pr l r (by omega)];have :=E j (.int .u8 m) 0 _ (by grind) rfl;simpa using this.int_inv
 grind
end
end Ab
namespace Ab
open Go (Addr Program Result Sem TypeId Value World undef)
structure Step(ν:Nat->Nat)(w:World)(S:Nat->Prop)(μ:Nat->Value)(H:Heap)(w':World)(S':Nat->Prop)(μ':Nat->Value)(H':Heap):Prop where
 rel:Rel ν w' S' μ' H'
 ext:Ext w S μ H w' S' μ' H'
 moves:Moves μ H μ' H'
def upd(μ:Nat->Value)(id:Nat)(v:Value):Nat->Value:=λi=>if i=id then v else μ i
@[simp]theorem upd_same{μ b v}:upd μ b v b=v:=by simp[upd]
theorem upd_ne{μ b v i}(h:i≠b):upd μ b v i=μ i:=by simp[upd,h]
section


variable{ν:Nat->Nat}{w w':World}{S S':Nat->Prop}{μ:Nat->Value}{H:Heap}
def cW(b:Blk):Prop:=(∃cs,b=.box cs)\/∃sz xs,b=.row false sz xs
theorem alive_iff{g}:alive μ H g↔∃a b,H[a]?=some b/\cW b/\aO (μ a)=some g:=by
 constructor
 ·rintro⟨a,d,⟨cs,e⟩|⟨sz,xs,e⟩⟩;·exact⟨a,_,e,.inl ⟨cs,rfl⟩,d⟩
  ·exact⟨a,_,e,.inr ⟨sz,xs,rfl⟩,d⟩
 ·rintro⟨a,b,d,⟨cs,rfl⟩|⟨sz,xs,rfl⟩,f⟩;·exact⟨a,f,.inl ⟨cs,d⟩⟩
  ·exact⟨a,f,.inr ⟨sz,xs,d⟩⟩
theorem Rel.inj'(a:Rel ν w S μ H){i j b c g}(hi:H[i]?=some b)(k:H[j]?=some c)(d:cW b)(h:cW c)(f:aO (μ i)=some g)(e:aO (μ j)=some g):i=j:=by
 refine a.inj i j g f e ?_ ?_;·rcases d with⟨cs,rfl⟩|⟨sz,xs,rfl⟩;all_goals grind
 ·rcases h with⟨cs,rfl⟩|⟨sz,xs,rfl⟩;all_goals grind
theorem RowAt.keep{v sz n us}(h:RowAt w v sz n us)(k:∀g,aO v=some g->w'.heap[g]?=w.heap[g]?):RowAt w' v sz n us:=by
 let⟨i,d⟩:=h;refine⟨i,?_⟩;rcases d with d|⟨g,cap,b,e,c,f,l,a⟩;·grind
 ·refine .inr ⟨g,cap,b,e,c,f,?_,a⟩;unfold Jj at l⊢;rw[k g (by rw[c];simp[aO];omega)];grind
theorem BlkRel.keep{d:Nat->Value}{G:Heap}{o:Nat}{b:Blk}(h:BlkRel ν w S μ H o b)(m:∀g,S g->S' g)(u:∀g,S g->w'.heap[g]?=w.heap[g]?)(J:Moves μ H d G)(E:d o=μ o)(y:∀g,aO (μ o)=some g->w'.heap[g]?=w.heap[g]?):BlkRel ν w' S' d G o b:=by cases b with
 |box A=>
  obtain⟨g,n,⟨cs,t,l,q,p,F⟩|⟨s,C,l,q⟩|⟨O,B,a,l,q,D,p,F⟩⟩:=h;·exact⟨g,by grind,.inl ⟨cs,t,by rw[y g (by rw[n];rfl)];grind,q,p,λj c z=>(F j c z).keep m u J⟩⟩
  ·exact⟨g,by grind,.inr (.inl ⟨s,C,l,by rw[y g (by rw[n];rfl)];grind⟩)⟩
  ·exact⟨g,by grind,.inr (.inr ⟨O,B,a,l,by rw[y g (by rw[n];rfl)];grind,D,p,λj k v U=>by let⟨e,Q,T,R,L⟩:=F j k v U;exact⟨e,Q,T.keep m u,R,L.keep m u J⟩⟩)⟩|row f sz xs=>let⟨P,K,us,n,l,q,p⟩:=h;exact⟨P,K,us,by rw[E];exact n.keep y,l,λi x j c N z=>(q i x j c N z).keep m u,λM g V=>m _ (p M g (by grind))⟩|dead=>exactλg V=>m _ (h g (by grind))
theorem Rel.stable(a:Rel ν w S μ H){g}(h:S g):g<w.heap.size/\¬alive μ H g:=⟨a.lt g h,λb=>a.apart g b h⟩
theorem Rel.blk_lt(m:Rel ν w S μ H){l b g}(o:H[l]?=some b)(c:aO (μ l)=some g):g<w.heap.size:=by have h:=m.blk l b o;cases b with
 |box j=>
  obtain⟨u,i,⟨cs,t,d,_⟩|⟨s,n,_,d⟩|⟨x,v,k,_,d,_⟩⟩:=h;·rw[i]at c;cases c;grind
  ·rw[i]at c;cases c;grind
  ·rw[i]at c;cases c;grind|row f sz xs=>
  let⟨_,_,us,⟨_,i⟩,_⟩:=h;rcases i with⟨_,a,r⟩|⟨u,cap,p,e,q,y,d,_⟩;·rw[r]at c;cases a<;>simp[aO]at c
  ·rw[q]at c;simp only[aO]at c;rw[if_neg (by omega)]at c;cases c;let⟨_,d,_⟩:=d;grind|dead=>exact m.lt g (h g c)
theorem Step.grow(d:Rel ν w S μ H)(c:Grows w w')(o:∀g,S g->S' g)(k:∀g,S' g->g<w'.heap.size)(e:∀g,S' g->S g\/w.heap.size<=g):Step ν w S μ H w' S' μ H:=by
 have keep:=λg h=>c.keep g (d.lt g h);refine⟨⟨k,λl b f=>(d.blk l b f).keep o keep .refl rfl (λg h=>c.keep g (d.blk_lt f h)),λg n p=>?_,d.inj⟩,⟨c.os,c.tape,c.output,c.size,λg h _=>c.keep g h,o,λg h q=>?_,λg h _=>h⟩,.refl⟩
 ·rcases e g p with h|h;·exact d.apart g n h
  ·let⟨l,b,f,_,i⟩:=alive_iff.1 n;have :=d.blk_lt f i;omega
 grind
theorem getElem?_push_lt{b:Type}{l:List b}{x:b}{i:Nat}(h:i<l.length):(l++[x])[i]?=l[i]?:=List.getElem?_append_left h
theorem iu{v b}:Moves μ H (upd μ H.length v) (H++[b]):=by
 refine⟨by simp,λc f sz xs a h=>?_,λc cs a h=>?_⟩;·rw[getElem?_push_lt a]at h;exact⟨f,xs,h,Nat.le_refl _,λ_=>upd_ne (by omega)⟩
 ·rw[getElem?_push_lt a]at h;exact⟨cs,h,upd_ne (by omega)⟩
theorem Step.push(f:Rel ν w S μ H){v:Value}{b:Blk}(m:Grows w w')(u:BlkRel ν w' S (upd μ H.length v) (H++[b]) H.length b)(s:∀g,aO v=some g->w.heap.size<=g):Step ν w S μ H w' S (upd μ H.length v) (H++[b]):=by
 have keep:=λg h=>m.keep g (f.lt g h);have e:∀(a:Nat)c,(H++[b])[a]?=some c->(a<H.length/\H[a]?=some c)\/(a=H.length/\c=b):=by grind
 have B:∀g,alive (upd μ H.length v) (H++[b]) g->alive μ H g\/aO v=some g:=by
  intro g r;let⟨a,c,I,p,y⟩:=alive_iff.1 r;rcases e a c I with⟨q,h⟩|⟨rfl,rfl⟩;·rw[upd_ne (by omega)]at y;exact .inl (alive_iff.2 ⟨a,c,h,p,y⟩)
  simp_all
 refine⟨⟨λg h=>Nat.lt_of_lt_of_le (f.lt g h) m.size,λa c t=>?_,λg r z=>?_,λi j g hi n G D=>?_⟩,⟨m.os,m.tape,m.output,m.size,λg h _=>m.keep g h,λ_ h=>h,λg h _=>.inl h,λg h q=>?_⟩,iu⟩
 ·rcases e a c t with⟨q,h⟩|⟨rfl,rfl⟩;·exact(f.blk a c h).keep (λ_ h=>h) keep iu (upd_ne (by omega)) (λg u=>m.keep g (f.blk_lt h u))
  grind
 ·rcases B g r with h|h;·exact f.apart g h z
  ·have :=s g h;have :=f.lt g z;omega
 ·have o:∀k:Nat,((∃cs,(H++[b])[k]?=some (Blk.box cs))\/∃sz xs,(H++[b])[k]?=some (Blk.row false sz xs))->∃c,(H++[b])[k]?=some c/\cW c:=by
   rintro k(⟨cs,h⟩|⟨sz,xs,h⟩);·exact⟨_,h,.inl ⟨cs,rfl⟩⟩
   ·exact⟨_,h,.inr ⟨sz,xs,rfl⟩⟩
  let⟨c,t,C⟩:=o i G;let⟨d,E,A⟩:=o j D;rcases e i c t with⟨q,h⟩|⟨rfl,rfl⟩<;>rcases e j d E with⟨F,p⟩|⟨rfl,rfl⟩;·rw[upd_ne (by omega)]at hi n;exact f.inj' h p C A hi n
  ·rw[upd_ne (by omega)]at hi;rw[upd_same]at n;have :=s g n;have :=f.blk_lt h hi;omega
  ·rw[upd_ne (by omega)]at n;rw[upd_same]at hi;have :=s g hi;have :=f.blk_lt p n;omega
  ·rfl
 grind
theorem Step.set(e:Rel ν w S μ H){a:Nat}{v:Value}{b m:Blk}(E:H[a]?=some b)(o:cW b)(I:w'.os=w.os)(M:w'.tape=w.tape)(x:w'.output=w.output)(A:w.heap.size<=w'.heap.size)(L:∀g,g<w.heap.size->aO (μ a)≠some g->w'.heap[g]?=w.heap[g]?)(R:Moves μ H (upd μ a v) (H.set a m))(hb:BlkRel ν w' S (upd μ a v) (H.set a m) a m)(J:∀g,aO v=some g->aO (μ a)=some g\/w.heap.size<=g):Step ν w S μ H w' S (upd μ a v) (H.set a m):=by
 have r:=λg D l=>e.apart g (alive_iff.2 ⟨a,b,E,o,l⟩) D;have keep:=λg h=>L g (e.lt g h) (r g h);have p:∀(i:Nat)c,(H.set a m)[i]?=some c->(i≠a/\H[i]?=some c)\/(i=a/\c=m):=by grind
 have Q:∀g,alive (upd μ a v) (H.set a m) g->alive μ H g\/aO v=some g:=by
  intro g F;let⟨i,c,h1,G,T⟩:=alive_iff.1 F;rcases p i c h1 with⟨s,h⟩|⟨rfl,rfl⟩;·rw[upd_ne s]at T;exact .inl (alive_iff.2 ⟨i,c,h,G,T⟩)
  simp_all
 have P:∀i c g,i≠a->H[i]?=some c->aO (μ i)=some g->aO (μ a)≠some g:=by
  intro i c g y n l B;by_cases t:cW c;·exact y (e.inj' n E t o l B)
  ·cases c with
   |box cs=>exact t (.inl ⟨cs,rfl⟩)|row f sz xs=>cases f with|false=>exact t (.inr ⟨sz,xs,rfl⟩)|true=>let⟨_,_,us,_,_,_,h4⟩:=e.blk i _ n;grind
   |dead=>exact r g (e.blk i _ n g l) B
 refine⟨⟨λg h=>Nat.lt_of_lt_of_le (e.lt g h) A,λi c n=>?_,λg F D=>?_,λi j g hi N V X=>?_⟩,⟨I,M,x,A,λg h O=>?_,λ_ h=>h,λg h _=>.inl h,λg h s=>?_⟩,R⟩
 ·rcases p i c n with⟨s,h⟩|⟨rfl,rfl⟩;·exact(e.blk i c h).keep (λ_ h=>h) keep R (upd_ne s) (λg l=>L g (e.blk_lt h l) (P i c g s h l))
  grind
 ·rcases Q g F with h|h;·exact e.apart g h D
  ·rcases J g h with h|h;·grind
   ·have :=e.lt g D;omega
 ·have C:∀k:Nat,((∃cs,(H.set a m)[k]?=some (Blk.box cs))\/∃sz xs,(H.set a m)[k]?=some (Blk.row false sz xs))->∃c,(H.set a m)[k]?=some c/\cW c:=by
   rintro k(⟨cs,h⟩|⟨sz,xs,h⟩);·exact⟨_,h,.inl ⟨cs,rfl⟩⟩
   ·exact⟨_,h,.inr ⟨sz,xs,rfl⟩⟩
  let⟨c,n,W⟩:=C i V;let⟨d,Y,U⟩:=C j X;have K:∀k c,k≠a->H[k]?=some c->aO (μ k)=some g->aO v=some g->False:=by
   intro k c y n l Z;rcases J g Z with h|h;·grind
   ·have :=e.blk_lt n l;omega
  rcases p i c n with⟨s,h⟩|⟨rfl,rfl⟩<;>rcases p j d Y with⟨z,G⟩|⟨rfl,rfl⟩;·rw[upd_ne s]at hi;rw[upd_ne z]at N;exact e.inj' h G W U hi N
  ·rw[upd_ne s]at hi;simp_all
  ·rw[upd_ne z]at N;simp_all
  ·rfl
 ·exact L g h (λl=>O (alive_iff.2 ⟨a,b,E,o,l⟩))
 ·rcases Q g h with h|h;·grind
  ·rcases J g h with h|h;·exact alive_iff.2 ⟨a,b,E,o,h⟩
   grind
end
section


variable{Γ:Ctx}{N:Names}{P:Program}{w:World}{S:Nat->Prop}{μ:Nat->Value}{H:Heap}
theorem Rel.keepS(c:Rel N.fn w S μ H){a:World}(b:Grows w a):∀g,S g->a.heap[g]?=w.heap[g]?:=λg h=>b.keep g (c.lt g h)
theorem CM(b:Rel N.fn w S μ H){cs:List AV}{us:Array Value}(T:TypeId)(h:CellsRel N.fn w S μ H cs us):∃a,Step N.fn w S μ H (w.alloc (.cells us T)) S a (H++[.box cs])/\RelV N.fn (w.alloc (.cells us T)) S a (H++[.box cs]) (.bx H.length 0) (.pointer (some ⟨w.heap.size,0,none⟩)):=by
 refine⟨upd μ H.length (.pointer (some ⟨w.heap.size,0,none⟩)),Step.push b (Grows.alloc w _) ?_ ?_,?_⟩;·refine⟨w.heap.size,upd_same,.inl ⟨us,T,Go.heap_alloc_new w _,h.size,h.one,λj c d=>?_⟩⟩;exact(h.rel j c d).keep (λ_ h=>h) (b.keepS (Grows.alloc w _)) iu
 ·intro g e;simp[aO,]at e;omega
 ·exact .bx _ _ w.heap.size _ (by simp) (λ_ _=>upd_same) rfl
theorem x_box(g:Rel N.fn w S μ H){T:TypeId}{x:Value}{f:AV}{r:AV×Heap}(i:RelV N.fn w S μ H f x)(b:boxA H f=some r):∃u e a,(Go.Instr.box T x).run P w=.ok u e/\Step N.fn w S μ H e S a r.2/\RelV N.fn e S a r.2 r.1 u:=by
 unfold boxA at b;split at b;·rename_i c;simp[]at b;subst b;let⟨k,m,l⟩:=i.cells c;let⟨a,h,j⟩:=CM g T ⟨k,m,l⟩;exact⟨_,_,a,by rfl,h,j⟩
 grind
theorem x_alloc(i:Rel N.fn w S μ H){T:TypeId}{zero:List PV}(h:Bc P T zero=true):∃u c a,(Go.Instr.alloc T true (.tuple #[])).run P w=.ok u c/\Step N.fn w S μ H c S a (H++[.box (zero.map .p)])/\RelV N.fn c S a (H++[.box (zero.map .p)]) (.bx H.length 0) u:=by let⟨z,d,e⟩:=tS (N:=N) (w:=w) (S:=S) (μ:=μ) (H:=H) h;let⟨a,f,g⟩:=CM i T e;exact⟨_,_,a,by simp[Go.Instr.alloc,d,Go.newVar,Go.newRow],f,g⟩
theorem mU{a:Nat}{cs b:List AV}{v:Value}(d:H[a]?=some (.box cs))(k:v=μ a):Moves μ H (upd μ a v) (H.set a (.box b)):=by
 have g:=(List.getElem?_eq_some_iff.1 d).1;refine⟨by simp,λi f sz xs j h=>?_,λi c j h=>?_⟩
 ·simp[List.getElem?_set,]at h;split at h;·grind
  ·rename_i e;exact⟨f,xs,h,Nat.le_refl _,λ_=>upd_ne (Ne.symm e)⟩
 ·simp[List.getElem?_set,]at h;split at h;·simp_all
  ·rename_i e;exact⟨c,h,upd_ne (Ne.symm e)⟩
theorem iQ{b:Nat}{f k:Bool}{sz:Nat}{xs a:List PV}{v:Value}(j:H[b]?=some (.row f sz xs))(m:xs.length<=a.length)(p:xs.length=a.length->v=μ b):Moves μ H (upd μ b v) (H.set b (.row k sz a)):=by
 have l:=(List.getElem?_eq_some_iff.1 j).1;refine⟨by simp,λi g n ys d h=>?_,λi c d h=>?_⟩
 ·simp[List.getElem?_set,]at h;split at h;·rename_i e;subst e;simp[]at h;obtain⟨rfl,rfl,rfl⟩:=h;exact⟨f,xs,j,m,λe=>by simp[*]⟩
  ·rename_i e;exact⟨g,ys,h,Nat.le_refl _,λ_=>upd_ne (Ne.symm e)⟩
 ·simp[List.getElem?_set,]at h;split at h;·grind
  ·rename_i e;exact⟨c,h,upd_ne (Ne.symm e)⟩
theorem kX{g k:Nat}{cs:Array Value}(h:k≠g):(w.setRow g cs).heap[k]?=w.heap[k]?:=Go.setRow_other w g k cs h
theorem setRow_size{g:Nat}{cs:Array Value}:(w.setRow g cs).heap.size=w.heap.size:=by simp
theorem wA{b:Array Value}{c:List Value}{a j:Nat}(h:a+c.length<=b.size):(b.toList.take a++c++b.toList.drop (a+c.length)).toArray.getD j undef=if a<=j/\j<a+c.length then c.getD (j-a) undef else b.getD j undef:=by rw[Tc,List.getD_eq_getElem?_getD,Array.getD_eq_getD_getElem?,List.append_assoc];grind
theorem BT{e:Type}{cs b:List e}{a j:Nat}{c:e}(h:a+b.length<=cs.length)(d:(cs.take a++b++cs.drop (a+b.length))[j]?=some c):(a<=j/\j<a+b.length/\b[j-a]?=some c)\/(¬(a<=j/\j<a+b.length)/\cs[j]?=some c):=by
 have f:(cs.take a).length=a:=by grind
 rw[List.append_assoc]at d;by_cases g:j<a;·grind
 ·rw[List.getElem?_append_right (by omega),f]at d;grind
theorem getD_toList{us:Array Value}{j:Nat}:us.toList.getD j undef=us.getD j undef:=by simp
theorem cells_one{cs:List AV}{us:Array Value}(h:CellsRel N.fn w S μ H cs us):∀v∈us.toList,v.oneCell'=true:=by
 intro v f;let⟨j,g⟩:=List.getElem?_of_mem f;have b:j<cs.length:=by rw[<-h.size];grind
 have d:=List.getElem?_eq_getElem b;have c:=h.rel j _ d;have e:us.getD j undef=v:=by simp_all
 rw[e]at c;exact c.one (h.one _ (List.mem_of_getElem? d))
theorem dZ(P:Program)(g o:Nat)(t:TypeId)(f:Nat×Nat):∀(h:List Value)(i:Nat)(a:Array Value)(w:World),w.heap[g]?=some (.cells a t f)->(f=(0,0)\/a.size<=f.1)->o+i+h.length<=a.size->(∀v∈h,v.oneCell'=true)->(Go.storeCells ⟨g,o,none⟩ h i).run P w=.ok () (w.setRow g (a.toList.take (o+i)++h++a.toList.drop (o+i+h.length)).toArray)
 |[],i,a,w,d,_,_,_=>by simp only[List.append_nil,List.length_nil,Nat.add_zero,List.take_append_drop,];rw[Go.setRow_self w g a t f d];rfl|v::b,i,a,w,d,k,s,n=>by
  have hi:o+i<a.size:=by grind
  have j:(⟨g,o,none⟩:Addr).add i=⟨g,o+i,none⟩:=by unfold Addr.add;simp
  have c:w.cell? ⟨g,o+i,none⟩=some a[o+i]:=by simp[World.cell?,d,]
  have l:w.frozen? ⟨g,o+i,none⟩=false:=by
   rcases k with rfl|k;·simp[World.frozen?,d]
   ·simp[World.frozen?,];grind
  have m:(Go.store ((⟨g,o,none⟩:Addr).add i) v).run P w=.ok () (w.setRow g (a.setIfInBounds (o+i) v)):=by rw[j,Go.run_store P w _ v _ (n v (by simp)),c];simp[l,Go.setCell_eq_setRow w g (o+i) a t f v d]
  have q:=dZ P g o t f b (i+1) (a.setIfInBounds (o+i) v) (w.setRow g (a.setIfInBounds (o+i) v)) (Go.setRow_heap w g a _ t _ d) (by grind) (by grind) (λx r=>n x (by grind));simp only[Go.storeCells,Go.Sem.run_bind,m,Go.Result.andThen_ok,q,Go.setRow_setRow];congr 3;have e:=Go.list_seg_step a.toList (o+i) v b (by grind);simpa[Array.toList_setIfInBounds,Nat.add_assoc]using e
theorem FrOk.or{sz cap n:Nat}{a:Nat×Nat}(h:FrOk sz cap a)(b:n=cap*sz):a=(0,0)\/n<=a.1:=by rcases h with h|⟨rfl,h⟩;all_goals grind
theorem ve{T:TypeId}{g b sz:Nat}{t:TypeId}{a:Array Value}{u:Value}{c:Nat×Nat}(i:(P.info? T).map (·.size)=some sz)(k:u.cells.size=sz)(f:w.heap[g]?=some (.cells a t c))(e:c=(0,0)\/a.size<=c.1)(j:b+sz<=a.size)(h:∀v∈u.cells.toList,v.oneCell'=true):(Go.Instr.storeAt T (.pointer (some ⟨g,b,none⟩)) u).run P w=.ok () (w.setRow g (a.toList.take b++u.cells.toList++a.toList.drop (b+u.cells.toList.length)).toArray):=by have d:=dZ P g b t c u.cells.toList 0 a w f e (by grind) h;simp[]at d;simp[Go.Instr.storeAt,Go.Instr.sureAddr,Go.storeVar,run_sizeOf i,];grind
theorem QB(G:Rel N.fn w S μ H){T:TypeId}{sz:Nat}{x y:Value}{x' y':AV}{H':Heap}(hs:(P.info? T).map (·.size)=some sz)(D:RelV N.fn w S μ H x' x)(hy:RelV N.fn w S μ H y' y)(r:oy H sz x' y'=some H'):∃w' μ',(Go.Instr.storeAt T x y).run P w=.ok () w'/\Step N.fn w S μ H w' S μ' H':=by
 unfold oy at r;split at r
 ·rename_i p b;obtain⟨cs,l,r⟩:=Option.bind_eq_some_iff.1 r;simp only[Option.ite_none_right_eq_some,Option.some.injEq]at r;obtain⟨⟨O,o,v⟩,rfl⟩:=r;have hb0:=l;have l:=jo l;obtain⟨g,rfl,hl,F⟩:=D.bx_inv;obtain⟨g',A,t,e1,e2,e3,e4,e5⟩:=G.box_of hb0;rw[F cs l]at e1;cases e1;obtain⟨c1,c2,c3⟩:=hy.cells O;have R:y.cells.toList.length=y'.cells.length:=by grind
  have hle':b+y.cells.toList.length<=A.size:=by grind
  refine⟨_,upd μ p (.pointer (some ⟨g,0,none⟩)),ve hs (by grind) e2 (.inl rfl) (by grind) (cells_one ⟨c1,c2,c3⟩),?_⟩;have X:Moves μ H (upd μ p (.pointer (some ⟨g,0,none⟩))) (H.set p (.box (cs.take b++y'.cells++cs.drop (b+sz)))):=mU l (F cs l).symm;have Q:∀k,k<w.heap.size->aO (μ p)≠some k->(w.setRow g (A.toList.take b++y.cells.toList++A.toList.drop (b+y.cells.toList.length)).toArray).heap[k]?=w.heap[k]?:=by intro k _ m;rw[F cs l]at m;exact kX (λe=>m (by rw[e];rfl))
  refine Step.set G l (.inl ⟨cs,rfl⟩) rfl rfl rfl (Nat.le_of_eq setRow_size.symm) Q X ?_ (λk h=>.inl (by grind));have d:∀k,S k->(w.setRow g (A.toList.take b++y.cells.toList++A.toList.drop (b+y.cells.toList.length)).toArray).heap[k]?=w.heap[k]?:=λk B=>Q k (G.lt k B) (λe=>G.apart k (alive_iff.2 ⟨p,_,l,.inl ⟨cs,rfl⟩,e⟩) B);refine⟨g,upd_same,.inl ⟨_,t,Go.setRow_heap w g A _ t _ e2,?_,λc J=>?_,λj c J=>?_⟩⟩;·grind
  ·grind
  ·rw[wA hle'];subst o;rcases BT v J with⟨h1,h2,h3⟩|⟨h1,h2⟩;·rw[if_pos ⟨h1,by omega⟩,getD_toList];exact(c3 _ c h3).keep (λ_ h=>h) d X
   ·rw[if_neg (by omega)];exact(e5 j c h2).keep (λ_ h=>h) d X
 ·rename_i p n i b;split at r;rotate_left;·grind
  rename_i a xs l;split at r;rotate_left;·grind
  rename_i hn;subst hn;obtain⟨z,hz,r⟩:=Option.bind_eq_some_iff.1 r;obtain⟨ps,hps,r⟩:=Option.bind_eq_some_iff.1 r;simp only[Option.ite_none_right_eq_some,Option.some.injEq]at r;obtain⟨⟨O,hpos,o,v⟩,rfl⟩:=r;have hi:i<xs.length:=(List.getElem?_eq_some_iff.1 hz).1;cases D with|el _ _ _ _ _ hl hx0 _=>
  obtain⟨_,hx1⟩:=hx0 _ _ _ l;obtain⟨g,cap,K,rfl⟩:=(hx1 rfl).1 (by omega);obtain⟨r0,rlim,us,r1,r2,r3,r4⟩:=G.blk p _ l;obtain⟨rl,r1⟩:=r1;rcases r1 with⟨h0,_⟩|⟨g',cap',f,e,W,hc0,F,hnc,hcm,hcs,M⟩;·omega
  rw[K]at W;cases W;obtain⟨c1,c2,c3⟩:=hy.cells O;obtain⟨p1,p2,p3⟩:=qF hps ⟨c1,c2,c3⟩;have L:z.cells.length=a:=(r2 z (List.mem_of_getElem? hz)).1;have R:y.cells.toList.length=sz:=by grind
  have hrow:(i+1)*a<=xs.length*a:=Nat.mul_le_mul_right _ hi;have hrow':xs.length*a<=cap*a:=Nat.mul_le_mul_right _ (by omega);have hi1:(i+1)*a=i*a+a:=by grind
  have U:i*a+b+y.cells.toList.length<=f.size:=by omega
  obtain⟨fr,F,Z⟩:=F;refine⟨_,upd μ p (μ p),ve hs (by grind) F (Z.or hcs) (by omega) (cells_one ⟨c1,c2,c3⟩),?_⟩;generalize E:Al b sz ps z=z2;have z2c:z2.cells.length=a/\(∀c∈z2.cells,c.one=true)/\∀j c,z2.cells[j]?=some c->(b<=j/\j<b+sz/\ps[j-b]?=some c)\/(¬(b<=j/\j<b+sz)/\z.cells[j]?=some c):=by
   have Y:=(r2 z (List.mem_of_getElem? hz)).2;by_cases hag:∃cs,z=.agg cs;·obtain⟨cs,rfl⟩:=hag;subst E;simp only[PV.cells,Al]at L Y v⊢;subst o;refine⟨by grind,λc J=>?_,λj c J=>BT v J⟩;grind
   ·have hz1:z.cells=[z]:=by cases z<;>first|rfl|grind
    rw[hz1]at L v⊢;simp only[List.length_cons,List.length_nil]at L v;have e1:b=0:=by omega
    have e2:sz=1:=by omega
    subst e1;match ps,o,p2,E with
    |[q],o,p2,E=>
     have hq:=p2 q (by simp);have :z2=q:=by subst E;cases z<;>first|rfl|grind
     rw[this,PV.cells_one hq];grind|[],o,_,_=>grind|_::_::_,o,_,_=>grind
  have X:Moves μ H (upd μ p (μ p)) (H.set p (.row false a (xs.set i z2))):=iQ l (by simp) (λ_=>rfl);have Q:∀k,k<w.heap.size->aO (μ p)≠some k->(w.setRow g (f.toList.take (i*a+b)++y.cells.toList++f.toList.drop (i*a+b+y.cells.toList.length)).toArray).heap[k]?=w.heap[k]?:=by intro k _ m;rw[K]at m;simp only[aO]at m;rw[if_neg (by omega)]at m;exact kX (λe=>m (by rw[e]))
  refine Step.set G l (.inr ⟨a,xs,rfl⟩) rfl rfl rfl (Nat.le_of_eq setRow_size.symm) Q X ?_ (λk h=>.inl h);have d:∀k,S k->(w.setRow g (f.toList.take (i*a+b)++y.cells.toList++f.toList.drop (i*a+b+y.cells.toList.length)).toArray).heap[k]?=w.heap[k]?:=λk B=>Q k (G.lt k B) (λe=>G.apart k (alive_iff.2 ⟨p,_,l,.inr ⟨a,xs,rfl⟩,e⟩) B);generalize V:(f.toList.take (i*a+b)++y.cells.toList++f.toList.drop (i*a+b+y.cells.toList.length)).toArray=s at d Q⊢;have C:∀j,s.getD j undef=if i*a+b<=j/\j<i*a+b+y.cells.toList.length then y.cells.toList.getD (j-(i*a+b)) undef else f.getD j undef:=λj=>by rw[<-V];exact wA U
  have hcsz:s.size=f.size:=by grind
  have I:∀j,j<xs.length*a->us.getD j undef=f.getD j undef:=λj hj=>by rw[<-M,List.getD_eq_getElem?_getD,List.getElem?_take,if_pos hj,<-List.getD_eq_getElem?_getD,getD_toList]
  refine⟨r0,by grind,s.toList.take (xs.length*a),⟨by grind,?_⟩,λx D=>?_,λu x j c D J=>?_,by simp⟩;·rw[upd_same,K,List.length_set];exact .inr ⟨g,cap,s,e,rfl,hc0,⟨fr,Go.setRow_heap w g f _ e _ F,Z⟩,hnc,hcm,by omega,rfl⟩
  ·grind
  ·have hi2:u<xs.length:=by grind
   have hrow2:(u+1)*a<=xs.length*a:=Nat.mul_le_mul_right _ hi2;have hi21:(u+1)*a=u*a+a:=by grind
   by_cases he:u=i
   ·subst he;rw[List.getElem?_set_self hi]at D;simp only[Option.some.injEq]at D;subst D;have hj:j<a:=by grind
    rw[List.getD_eq_getElem?_getD,List.getElem?_take,if_pos (by omega),<-List.getD_eq_getElem?_getD,getD_toList,C _];rcases z2c.2.2 j c J with⟨h1,h2,h3⟩|⟨h1,h2⟩;·rw[if_pos (by omega),show u*a+j-(u*a+b)=j-b by omega,getD_toList];exact(p3 _ c h3).keep (λ_ h=>h) d
    ·rw[if_neg (by omega),<-I _ (by omega)];exact(r3 u z j c hz h2).keep (λ_ h=>h) d
   ·rw[List.getElem?_set_ne (Ne.symm he)]at D;have hj:j<a:=by grind
    rw[List.getD_eq_getElem?_getD,List.getElem?_take,if_pos (by omega),<-List.getD_eq_getElem?_getD,getD_toList,C _];have far:¬(i*a+b<=u*a+j/\u*a+j<i*a+b+y.cells.toList.length):=by
     rcases Nat.lt_or_gt_of_ne he with h|h;·have :(u+1)*a<=i*a:=Nat.mul_le_mul_right _ h;omega
     ·have :(i+1)*a<=u*a:=Nat.mul_le_mul_right _ h;omega
    rw[if_neg far,<-I _ (by omega)];exact(r3 u x j c D J).keep (λ_ h=>h) d
 grind
end
end Ab
