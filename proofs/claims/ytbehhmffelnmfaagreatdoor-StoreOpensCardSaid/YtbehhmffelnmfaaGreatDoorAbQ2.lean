import Derived.Test.YtbehhmffelnmfaaGreatDoorAbBase
import Derived.Below
import Derived.Laws.OwnMore
import Derived.MapKept
import Derived.Control
import Derived.Calls
import Derived.WalkKit
import Derived.Laws.StructEq
set_option linter.all false
namespace Ab
open Go (Act Addr BinOp Builtin IntKind Next Obj Op Operand Program Result Sem TypeId UnOp Value World maxLen undef)
theorem block_add(a:Addr)(n:Nat):(a.add n).block=a.block:=by unfold Addr.add;grind
theorem add_add(a:Addr)(i j:Nat):(a.add i).add j=a.add (i+j):=by unfold Addr.add;grind
inductive RelP(ν:Nat->Nat)(w:World)(S:Nat->Prop):PV->Value->Prop|int(k n):RelP ν w S (.int k n) (.int k n)|bool(b):RelP ν w S (.bool b) (.bool b)|str(s):RelP ν w S (.str s) (.string ⟨s.toArray⟩)|nilp:RelP ν w S .nilp (.pointer none)|nilfn:RelP ν w S .nilfn .nilFunc|nilmap:RelP ν w S .nilmap (.map none)|clo(f cs us):us.size=cs.length->(∀c∈cs,c.one=true)->(∀j c,cs[j]?=some c->RelP ν w S c (us.getD j undef))->RelP ν w S (.clo f cs) (.func (.func (ν f)) #[] us)|sl(k sz xs a cap)(us:Nat->Nat->Value):xs.length<=cap->cap<=maxLen->(∀x∈xs,x.cells.length=sz/\∀c∈x.cells,c.one=true)->(k=.nil\/a=none->xs=[]/\a=none/\cap=0)->(k=.tight\/k=.mem->a.isSome=true/\(k=.tight->cap=xs.length))->(xs≠[]->∃ad,a=some ad/\S ad.block)->(∀ad,a=some ad->∀i x j c,xs[i]?=some x->x.cells[j]?=some c->w.cell? (ad.add (i*sz+j))=some (us i j))->(∀i x j c,xs[i]?=some x->x.cells[j]?=some c->RelP ν w S c (us i j))->RelP ν w S (.sl k sz xs) (.slice a xs.length cap)|ptr(cells ad)(us:Nat->Value):cells≠[]->S ad.block->(∀c∈cells,c.one=true)->(∀j c,cells[j]?=some c->w.cell? (ad.add j)=some (us j))->(∀j c,cells[j]?=some c->RelP ν w S c (us j))->RelP ν w S (.ptr cells) (.pointer (some ad))|agg(cs us):us.size=cs.length->(∀c∈cs,c.one=true)->(∀j c,cs[j]?=some c->RelP ν w S c (us.getD j undef))->RelP ν w S (.agg cs) (.agg us)
def aO:Value->Option Nat|.slice (some a) _ cap=>if cap=0 then none else some a.block|.pointer (some a)=>some a.block|_=>none
def FrOk(sz cap:Nat)(fr:Nat×Nat):Prop:=fr=(0,0)\/(sz=1/\cap<=fr.1)
def Jj(w:World)(g:Nat)(cur:Array Value)(e:Go.TypeId)(sz cap:Nat):Prop:=∃fr,w.heap[g]?=some (.cells cur e fr)/\FrOk sz cap fr
def RowAt(w:World)(v:Value)(sz n:Nat)(us:List Value):Prop:=us.length=n*sz/\((n=0/\∃a,v=.slice a 0 0)\/∃g cap cur e,v=.slice (some ⟨g,0,none⟩) n cap/\0<cap/\Jj w g cur e sz cap/\n<=cap/\cap<=maxLen/\cur.size=cap*sz/\cur.toList.take (n*sz)=us)
def ElAt(m:Value)(sz n i off:Nat)(u:Value):Prop:=(i<n->∃g cap,m=.slice (some ⟨g,0,none⟩) n cap/\u=.pointer (some ⟨g,i*sz+off,none⟩))/\(n<=i->i-n<n->i-n<=off->off<=n->∃g cap,m=.slice (some ⟨g,0,none⟩) n cap/\u=.slice (some ⟨g,(i-n)*sz,none⟩) (off-(i-n)) (cap-(i-n)))
inductive RelV(ν:Nat->Nat)(w:World)(S:Nat->Prop)(μ:Nat->Value)(H:Heap):AV->Value->Prop|p(v u):RelP ν w S v u->RelV ν w S μ H (.p v) u|own(id n u):id<H.length->(∀f sz xs,H[id]?=some (.row f sz xs)->n<=xs.length/\(n=xs.length->u=μ id))->u.oneCell'=true->RelV ν w S μ H (.own id n) u|bx(id off g u):id<H.length->(∀cs,H[id]?=some (.box cs)->μ id=.pointer (some ⟨g,0,none⟩))->u=.pointer (some ⟨g,off,none⟩)->RelV ν w S μ H (.bx id off) u|el(id n i off u):id<H.length->(∀f sz xs,H[id]?=some (.row f sz xs)->n<=xs.length/\(n=xs.length->ElAt (μ id) sz n i off u))->u.oneCell'=true->RelV ν w S μ H (.el id n i off) u|mp(id g u):id<H.length->(∀cs,H[id]?=some (.box cs)->μ id=.pointer (some ⟨g,0,none⟩))->u=.map (some g)->RelV ν w S μ H (.mp id) u|agg(cs us):us.size=cs.length->(∀c∈cs,c.one=true)->(∀j c,cs[j]?=some c->RelV ν w S μ H c (us.getD j undef))->RelV ν w S μ H (.agg cs) (.agg us)|tup(cs us):us.size=cs.length->(∀j c,cs[j]?=some c->RelV ν w S μ H c (us.getD j undef))->RelV ν w S μ H (.tup cs) (.tuple us)|clo(f cs us):us.size=cs.length->(∀c∈cs,c.one=true)->(∀j c,cs[j]?=some c->RelV ν w S μ H c (us.getD j undef))->RelV ν w S μ H (.clo f cs) (.func (.func (ν f)) #[] us)|nov:RelV ν w S μ H .nov undef|any(u):RelV ν w S μ H .any u
def BlkRel(ν:Nat->Nat)(w:World)(S:Nat->Prop)(μ:Nat->Value)(H:Heap)(id:Nat):Blk->Prop|.box cells=>∃g,μ id=.pointer (some ⟨g,0,none⟩)/\((∃cs t,w.heap[g]?=some (.cells cs t (0,0))/\cs.size=cells.length/\(∀c∈cells,c.one=true)/\∀j c,cells[j]?=some c->RelV ν w S μ H c (cs.getD j undef))\/(∃s pos,cells=bX s pos/\w.heap[g]?=some (.stringIter ⟨s.toArray⟩ pos))\/∃es arr clock,cells=ak es/\w.heap[g]?=some (.map arr clock)/\Go.MapKept.Stamped arr clock/\arr.size=es.length/\∀(j:Nat)k v,es[j]?=some (k,v)->∃e,arr[j]?=some e/\RelP ν w S k e.key/\v.ok=true/\RelV ν w S μ H v e.val)|.row f sz xs=>0<sz/\xs.length<=lim/\∃us,RowAt w (μ id) sz xs.length us/\(∀x∈xs,x.cells.length=sz/\∀c∈x.cells,c.one=true)/\(∀i x j c,xs[i]?=some x->x.cells[j]?=some c->RelP ν w S c (us.getD (i*sz+j) undef))/\(f=true->∀g,aO (μ id)=some g->S g)|.dead=>∀g,aO (μ id)=some g->S g
def alive(μ:Nat->Value)(H:Heap)(g:Nat):Prop:=∃id,aO (μ id)=some g/\((∃cs,H[id]?=some (.box cs))\/∃sz xs,H[id]?=some (.row false sz xs))
structure Rel(ν:Nat->Nat)(w:World)(S:Nat->Prop)(μ:Nat->Value)(H:Heap):Prop where
 lt:∀g,S g->g<w.heap.size
 blk:∀id b,H[id]?=some b->BlkRel ν w S μ H id b
 apart:∀g,alive μ H g->¬S g
 inj:∀i j g,aO (μ i)=some g->aO (μ j)=some g->((∃cs,H[i]?=some (.box cs))\/∃sz xs,H[i]?=some (.row false sz xs))->((∃cs,H[j]?=some (.box cs))\/∃sz xs,H[j]?=some (.row false sz xs))->i=j
structure Ext(w:World)(S:Nat->Prop)(μ:Nat->Value)(H:Heap)(w':World)(S':Nat->Prop)(μ':Nat->Value)(H':Heap):Prop where
 os:w'.os=w.os
 tape:w'.tape=w.tape
 output:w'.output=w.output
 size:w.heap.size<=w'.heap.size
 keep:∀g,g<w.heap.size->¬alive μ H g->w'.heap[g]?=w.heap[g]?
 more:∀g,S g->S' g
 new:∀g,S' g->g<w.heap.size->S g\/alive μ H g
 own:∀g,alive μ' H' g->g<w.heap.size->alive μ H g
theorem Ext.refl{w S μ H}:Ext w S μ H w S μ H:=⟨rfl,rfl,rfl,Nat.le_refl _,λ_ _ _=>rfl,λ_ h=>h,λ_ h _=>.inl h,λ_ h _=>h⟩
theorem Ext.trans{w S μ H m n f o k j e l}(a:Ext w S μ H m n f o)(b:Ext m n f o k j e l):Ext w S μ H k j e l where
 os:=b.os.trans a.os;tape:=b.tape.trans a.tape;output:=b.output.trans a.output;size:=Nat.le_trans a.size b.size;keep g d c:=(b.keep g (Nat.lt_of_lt_of_le d a.size) (λh=>c (a.own g h d))).trans (a.keep g d c);more g h:=b.more g (a.more g h);new g d c:=by
  rcases b.new g d (Nat.lt_of_lt_of_le c a.size)with h|h;·exact a.new g h c
  ·exact .inr (a.own g h c)
 own g d c:=a.own g (b.own g d (Nat.lt_of_lt_of_le c a.size)) c
theorem gM{w a:World}{p:Addr}(h:a.heap[p.block]?=w.heap[p.block]?):a.cell? p=w.cell? p:=by unfold World.cell?;rw[h]
theorem RelP.keep{ν:Nat->Nat}{w t:World}{S s:Nat->Prop}(C:∀g,S g->s g)(r:∀g,S g->t.heap[g]?=w.heap[g]?){v u}(h:RelP ν w S v u):RelP ν t s v u:=by induction h with
 |int=>exact .int _ _|bool=>exact .bool _|str=>exact .str _|nilp=>exact .nilp|nilfn=>exact .nilfn|nilmap=>exact .nilmap|clo f cs us l d _ m=>exact .clo f cs us l d m|sl k sz xs a cap us l d o A F B E _ m=>
  refine .sl k sz xs a cap us l d o A F (λq=>?_) (λp y i x j c q n=>?_) m;·grind
  ·let⟨D,e,G⟩:=B (by grind);rw[y]at e;cases e;rw[<-E p y i x j c q n];exact gM (r _ (by rw[block_add];grind))|ptr b p us z l d o _ m=>refine .ptr b p us z (C _ l) d (λj c n=>?_) m;rw[<-o j c n];exact gM (r _ (by rw[block_add];grind))|agg cs us l d _ m=>exact .agg cs us l d m
structure Moves(μ:Nat->Value)(H:Heap)(μ':Nat->Value)(H':Heap):Prop where
 len:H.length<=H'.length
 row:∀id f sz xs,id<H.length->H'[id]?=some (.row f sz xs)->∃f0 xs0,H[id]?=some (.row f0 sz xs0)/\xs0.length<=xs.length/\(xs0.length=xs.length->μ' id=μ id)box:∀id cs,id<H.length->H'[id]?=some (.box cs)->∃cs0,H[id]?=some (.box cs0)/\μ' id=μ id
theorem RelV.keep{ν:Nat->Nat}{w y:World}{S z:Nat->Prop}{μ k:Nat->Value}{H x:Heap}(C:∀g,S g->z g)(A:∀g,S g->y.heap[g]?=w.heap[g]?)(d:Moves μ H k x){v u}(h:RelV ν w S μ H v u):RelV ν y z k x v u:=by induction h with
 |p v u h=>exact .p v u (h.keep C A)|own b n u c h a=>refine .own b n u (Nat.lt_of_lt_of_le c d.len) (λf sz xs e=>?_) a;let⟨B,t,s,m,o⟩:=d.row b f sz xs c e;grind|bx b j g u c h a=>refine .bx b j g u (Nat.lt_of_lt_of_le c d.len) (λcs e=>?_) a;let⟨q,s,o⟩:=d.box b cs c e;grind|el b n i j u c h a=>refine .el b n i j u (Nat.lt_of_lt_of_le c d.len) (λf sz xs e=>?_) a;let⟨B,t,s,m,o⟩:=d.row b f sz xs c e;grind|mp b g u c h a=>refine .mp b g u (Nat.lt_of_lt_of_le c d.len) (λcs e=>?_) a;let⟨q,s,o⟩:=d.box b cs c e;grind|agg cs us a r _ l=>exact .agg cs us a r l|tup cs us a _ l=>exact .tup cs us a l|clo f cs us a r _ l=>exact .clo f cs us a r l|nov=>exact .nov|any u=>exact .any u
theorem Moves.refl{μ H}:Moves μ H μ H:=⟨Nat.le_refl _,λ_ _ _ xs _ h=>⟨_,xs,h,Nat.le_refl _,λ_=>rfl⟩,λ_ cs _ h=>⟨cs,h,rfl⟩⟩
theorem PV.cells_one{v:PV}(h:v.one=true):v.cells=[v]:=by cases v<;>first|rfl|cases h
theorem RelP.one{ν w S v u}(h:RelP ν w S v u):u.oneCell'=v.one:=by cases h<;>rfl
theorem RelV.one{ν w S μ H v u}(h:RelV ν w S μ H v u)(a:v.one=true):u.oneCell'=true:=by cases h with|p v u h=>rw[h.one];exact a|own _ _ _ _ _ h=>grind|bx _ _ _ _ _ _ h=>subst h;rfl|el _ _ _ _ _ _ _ h=>grind|mp _ _ _ _ _ h=>subst h;rfl|agg=>cases a|tup=>cases a|clo=>rfl|nov=>cases a|any=>cases a
theorem RelP.cells{ν w S v u}(h:RelP ν w S v u):u.cells.size=v.cells.length/\(∀c∈v.cells,c.one=true)/\∀j c,v.cells[j]?=some c->RelP ν w S c (u.cells.getD j undef):=by
 cases h;case agg cs us d e b=>exact⟨d,e,b⟩
 all_goals
  refine⟨rfl,λc a=>?_,λj c a=>?_⟩;·simp[PV.cells,]at a;subst a;rfl
  ·cases j with|zero=>simp[PV.cells,]at a;subst a;simp[];constructor<;>assumption|succ j=>simp[PV.cells]at a
theorem RelV.cells{ν w S μ H v u}(h:RelV ν w S μ H v u)(l:v.ok=true):u.cells.size=v.cells.length/\(∀c∈v.cells,c.one=true)/\∀j c,v.cells[j]?=some c->RelV ν w S μ H c (u.cells.getD j undef):=by cases h with
 |p v u h=>
  let⟨k,d,b⟩:=h.cells;refine⟨by rw[k];simp[AV.cells],λc a=>?_,λj c a=>?_⟩;·simp[AV.cells,]at a;obtain⟨x,q,rfl⟩:=a;exact d x q
  ·simp[AV.cells,]at a;obtain⟨x,q,rfl⟩:=a;exact .p _ _ (b j x q)|agg cs us k d b=>exact⟨k,d,b⟩|tup=>cases l|nov=>cases l|any=>cases l|own m n u k d b=>
  have e:u.cells=#[u]:=by cases u<;>first|rfl|cases b
  rw[e];refine⟨rfl,λc a=>?_,λj c a=>?_⟩;·simp[AV.cells,]at a;subst a;rfl
  ·cases j with|zero=>simp[AV.cells,]at a;subst a;exact .own _ _ _ k d b|succ j=>simp[AV.cells]at a
 |bx m o g u k d b=>
  subst b;refine⟨rfl,λc a=>?_,λj c a=>?_⟩;·simp[AV.cells,]at a;subst a;rfl
  ·cases j with|zero=>simp[AV.cells,]at a;subst a;exact .bx _ _ _ _ k d rfl|succ j=>simp[AV.cells]at a
 |el m n i o u k d b=>
  have e:u.cells=#[u]:=by cases u<;>first|rfl|cases b
  rw[e];refine⟨rfl,λc a=>?_,λj c a=>?_⟩;·simp[AV.cells,]at a;subst a;rfl
  ·cases j with|zero=>simp[AV.cells,]at a;subst a;exact .el _ _ _ _ _ k d b|succ j=>simp[AV.cells]at a
 |mp m g u k d b=>
  subst b;refine⟨rfl,λc a=>?_,λj c a=>?_⟩;·simp[AV.cells,]at a;subst a;rfl
  ·cases j with|zero=>simp[AV.cells,]at a;subst a;exact .mp _ _ _ k d rfl|succ j=>simp[AV.cells]at a
 |clo f cs us k d b=>
  refine⟨rfl,λc a=>?_,λj c a=>?_⟩;·simp[AV.cells,]at a;subst a;rfl
  ·cases j with|zero=>simp[AV.cells,]at a;subst a;exact .clo _ _ _ k d b|succ j=>simp[AV.cells]at a
structure Names where
 fn:Nat->Nat
 gl:Nat->Nat
def Le:Value->PV->Bool|.int k n,.int k' n'=>k==k'&&n==n'|.bool a,.bool b=>a==b|.string s,.str l=>s.data.toList==l|.pointer none,.nilp=>true|.nilFunc,.nilfn=>true|.map none,.nilmap=>true|.slice none 0 0,.sl .nil _ []=>true|_,_=>false
def vq:List Value->List PV->Bool|[],[]=>true|v::vs,p::ps=>Le v p&&vq vs ps|_,_=>false
def Cg:Value->PV->Bool|.agg us,.agg ps=>vq us.toList ps|v,p=>Le v p
theorem BI{ν w S v p}(h:Le v p=true):RelP ν w S p v/\p.one=true:=by
 unfold Le at h;split at h;·simp[]at h;obtain⟨rfl,rfl⟩:=h;exact⟨.int _ _,rfl⟩
 ·simp[]at h;subst h;exact⟨.bool _,rfl⟩
 ·rename_i s l;simp[]at h;subst h;exact⟨.str s.data.toList,rfl⟩
 ·exact⟨.nilp,rfl⟩
 ·exact⟨.nilfn,rfl⟩
 ·exact⟨.nilmap,rfl⟩
 ·exact⟨.sl .nil _ [] none 0 (λ_ _=>undef) (Nat.le_refl _) (Nat.zero_le _) (by simp) (by simp) (by simp) (by simp) (by simp) (by simp),rfl⟩
 grind
theorem mF{ν w S}:∀{a ps},vq a ps=true->a.length=ps.length/\(∀c∈ps,c.one=true)/\∀(j:Nat)c,ps[j]?=some c->RelP ν w S c (a.getD j undef)
 |[],[],_=>⟨rfl,by simp,by simp⟩|v::a,p::ps,h=>by simp[vq,]at h;let⟨e,f,i⟩:=mF (ν:=ν) (w:=w) (S:=S) h.2;let⟨g,d⟩:=BI (ν:=ν) (w:=w) (S:=S) h.1;grind|[],_::_,h=>by cases h|_::_,[],h=>by cases h
theorem xu{ν w S v p}(h:Cg v p=true):RelP ν w S p v:=by
 unfold Cg at h;split at h;·rename_i us ps;let⟨d,a,e⟩:=mF (ν:=ν) (w:=w) (S:=S) h;exact .agg ps us (by grind) a (λj c b=>by simp_all)
 ·exact(BI h).1
def az(N:Names):Operand->Arg->Bool|.tmp t,.v t'=>t==t'|.const v,.c p=>Cg v p|.global g,.g n=>N.gl n==g|.func f,.f n=>N.fn n==f|_,_=>false
structure GlRel(Γ:Ctx)(N:Names)(w:World)(S:Nat->Prop):Prop where
 rel:∀n cs,Γ.gl n=some cs->RelP N.fn w S (.ptr cs) (.pointer (some ⟨N.gl n,0,none⟩))whole:∀n cs,Γ.gl n=some cs->∃us e fr,w.heap[N.gl n]?=some (.cells us e fr)/\us.size=cs.length
 ints:∀n∈Γ.gi,S (N.gl n)/\∃m,w.cell? ⟨N.gl n,0,none⟩=some (.int .i64 m)
structure Env.Rel(Γ:Ctx)(N:Names)(w:World)(S:Nat->Prop)(μ:Nat->Value)(H:Heap)(σ:Nat->AV)(a:Act):Prop where env:∀t,RelV N.fn w S μ H (σ t) (a.tmps.getD t undef)gl:GlRel Γ N w S
theorem Env.Rel.arg{Γ N w S μ H σ a}(h:Env.Rel Γ N w S μ H σ a){o x}(b:az N o x=true):RelV N.fn w S μ H (x.ev Γ σ) (a.eval o):=by
 unfold az at b;split at b;·simp[]at b;subst b;exact h.env _
 ·exact .p _ _ (xu b)
 ·simp[]at b;subst b;simp[Arg.ev];cases c:Γ.gl _ with|none=>exact .any _|some cs=>exact .p _ _ (h.gl.rel _ cs c)
 ·simp[]at b;subst b;exact .p _ _ (.clo _ [] #[] rfl (by simp) (by simp))
 grind
structure Grows(w w':World):Prop where
 os:w'.os=w.os
 tape:w'.tape=w.tape
 output:w'.output=w.output
 size:w.heap.size<=w'.heap.size
 keep:∀g,g<w.heap.size->w'.heap[g]?=w.heap[g]?
theorem Grows.refl(w:World):Grows w w:=⟨rfl,rfl,rfl,Nat.le_refl _,λ_ _=>rfl⟩
theorem Grows.trans{a b c:World}(h:Grows a b)(k:Grows b c):Grows a c:=⟨k.os.trans h.os,k.tape.trans h.tape,k.output.trans h.output,Nat.le_trans h.size k.size,λg e=>(k.keep g (Nat.lt_of_lt_of_le e h.size)).trans (h.keep g e)⟩
theorem Grows.alloc(w:World)(o:Obj):Grows w (w.alloc o):=⟨rfl,rfl,rfl,by simp,λg a=>Go.RowKit.Below.heap_alloc w o g a⟩
theorem Grows.drew(w:World):Grows w w.drew:=⟨rfl,rfl,rfl,Nat.le_refl _,λ_ _=>rfl⟩
def QRes(ν:Nat->Nat)(_P:Program)(w:World)(S:Nat->Prop)(μ:Nat->Value)(H:Heap)(r:Result Next)(v:AV):Prop:=∃u w' S',r=.ok (.value u) w'/\Grows w w'/\(∀g,S g->S' g)/\(∀g,S' g->g<w'.heap.size)/\(∀g,S' g->S g\/w.heap.size<=g)/\RelV ν w' S' μ H v u
theorem QRes.same{ν P w S μ H r v u}(b:∀g,S g->g<w.heap.size)(a:r=.ok (.value u) w)(h:RelV ν w S μ H v u):QRes ν P w S μ H r v:=⟨u,w,S,a,Grows.refl w,λ_ h=>h,b,λ_ h=>.inl h,h⟩
section


variable{Γ:Ctx}{N:Names}{P:Program}{w:World}{S:Nat->Prop}{μ:Nat->Value}{H:Heap}{σ:Nat->AV}{a:Act}
theorem RelV.bool_inv{ν t u}(h:RelV ν w S μ H (.p (.bool t)) u):u=.bool t:=by cases h with|p _ _ h=>cases h;rfl
theorem RelV.int_inv{ν k n u}(h:RelV ν w S μ H (.p (.int k n)) u):u=.int k n:=by cases h with|p _ _ h=>cases h;rfl
theorem RelV.str_inv{ν s u}(h:RelV ν w S μ H (.p (.str s)) u):u=.string ⟨s.toArray⟩:=by cases h with|p _ _ h=>cases h;rfl
theorem RelV.p_inv{ν v u}(h:RelV ν w S μ H (.p v) u):RelP ν w S v u:=by cases h with|p _ _ h=>grind
theorem q_pick{c x y:Operand}{h i g:Arg}{v:AV}(f:Env.Rel Γ N w S μ H σ a)(k:az N c h=true)(l:az N x i=true)(j:az N y g=true)(d:ES (h.ev Γ σ) (i.ev Γ σ) (g.ev Γ σ)=some v):∃u,(do pure (.value (if<-Go.asBool (a.eval c)then a.eval x else a.eval y)):Sem Next).run P w=.ok (.value u) w/\RelV N.fn w S μ H v u:=by
 unfold ES at d;split at d
 ·rename_i t m;have e:=f.arg k;rw[m]at e;rw[e.bool_inv];simp[]at d;subst d;cases t;·exact⟨a.eval y,by rfl,f.arg j⟩
  ·exact⟨a.eval x,by rfl,f.arg l⟩
 grind
theorem To{a n i:Nat}(h:elOk H a n i=true):∃f sz xs,H[a]?=some (.row f sz xs)/\xs.length=n/\i<n:=by unfold elOk rowOf at h;grind
theorem RelV.el_inv{ν b n i a u}(h:RelV ν w S μ H (.el b n i a) u)(c:elOk H b n i=true):∃f sz xs g cap,H[b]?=some (.row f sz xs)/\xs.length=n/\i<n/\μ b=.slice (some ⟨g,0,none⟩) n cap/\u=.pointer (some ⟨g,i*sz+a,none⟩):=by let⟨f,sz,xs,e,j,l⟩:=To c;cases h with|el _ _ _ _ _ m h d=>let⟨_,k⟩:=h f sz xs e;let⟨g,cap,h5,o⟩:=(k j.symm).1 l;grind
theorem RelV.bx_inv{ν b a u}(h:RelV ν w S μ H (.bx b a) u):∃g,u=.pointer (some ⟨g,a,none⟩)/\b<H.length/\∀cs,H[b]?=some (.box cs)->μ b=.pointer (some ⟨g,0,none⟩):=by cases h with|bx _ _ g _ c e d=>grind
theorem q_nilchk{x:Value}{i v:AV}(d:RelV N.fn w S μ H i x)(b:lc H i=some v):v=i/\((∃a,x=.pointer (some a))\/(∃f cs,x=.func (.func f) #[] cs)):=by
 unfold lc at b;split at b;·simp[]at b;subst b;cases d with|p _ _ h=>cases h;simp
 ·simp[]at b;subst b;let⟨g,h,_⟩:=d.bx_inv;grind
 ·unfold ifB at b;split at b;·rename_i e;simp[]at b;subst b;let⟨_,_,_,_,_,_,_,_,_,h⟩:=d.el_inv e;grind
  grind
 ·simp[]at b;subst b;cases d with|p _ _ h=>cases h;simp
 ·simp[]at b;subst b;cases d;simp
 grind
theorem MR{b:BinOp}{k d:IntKind}{x y:Int}{T:TypeId}{v:PV}(c:k=d\/b=.shl\/b=.shr)(h:gt b k x y=some v):∃u,(Go.binOp b T (.int k x) (.int d y)).run P w=.ok u w/\RelP N.fn w S v u:=by
 cases b;case shl=>
  simp only[gt]at h;split at h;·grind
  ·rename_i a;simp[]at h;subst h;exact⟨_,by simp[Go.binOp,Go.Op.shift,a],.int _ _⟩
 case shr=>
  simp only[gt]at h;split at h;·grind
  ·rename_i a;simp[]at h;subst h;exact⟨_,by simp[Go.binOp,Go.Op.shift,a],.int _ _⟩
 all_goals simp[]at c;subst c;simp only[gt]at h
 case quo=>
  split at h;·grind
  ·rename_i a;simp[]at h;subst h;exact⟨_,by simp[Go.binOp,Go.Op.intDiv,a],.int _ _⟩
 case rem=>
  split at h;·grind
  ·rename_i a;simp[]at h;subst h;exact⟨_,by simp[Go.binOp,Go.Op.intDiv,a],.int _ _⟩
 all_goals simp[]at h;subst h
 case add=>exact⟨_,by simp[Go.binOp,Go.Op.intArith],.int _ _⟩
 case sub=>exact⟨_,by simp[Go.binOp,Go.Op.intArith],.int _ _⟩
 case mul=>exact⟨_,by simp[Go.binOp,Go.Op.intArith],.int _ _⟩
 case and=>exact⟨_,by simp[Go.binOp,Go.Op.intBits],.int _ _⟩
 case or=>exact⟨_,by simp[Go.binOp,Go.Op.intBits],.int _ _⟩
 case xor=>exact⟨_,by simp[Go.binOp,Go.Op.intBits],.int _ _⟩
 case andNot=>exact⟨_,by simp[Go.binOp,Go.Op.intBits],.int _ _⟩
 case eql=>exact⟨.bool (x==y),by simp[Go.binOp,Go.Op.intCmp],.bool _⟩
 case neq=>exact⟨.bool (x !=y),by simp[Go.binOp,Go.Op.intCmp],.bool _⟩
 case lss=>exact⟨.bool (decide (x<y)),by simp[Go.binOp,Go.Op.intCmp],.bool _⟩
 case leq=>exact⟨.bool (decide (x<=y)),by simp[Go.binOp,Go.Op.intCmp],.bool _⟩
 case gtr=>exact⟨.bool (decide (y<x)),by simp[Go.binOp,Go.Op.intCmp],.bool _⟩
 case geq=>exact⟨.bool (decide (y<=x)),by simp[Go.binOp,Go.Op.intCmp],.bool _⟩
theorem bytesLess_eq:∀a b,Ab.bytesLess a b=Go.Op.bytesLess a b|_,[]=>by simp[Ab.bytesLess,Go.Op.bytesLess]|[],_::_=>by rfl|a::x,b::y=>by simp[Ab.bytesLess,Go.Op.bytesLess,bytesLess_eq x y]
theorem Ta(x y:List UInt8):(ByteArray.mk x.toArray)++(ByteArray.mk y.toArray)=ByteArray.mk (x++y).toArray:=by rfl
theorem size_mk(x:List UInt8):(ByteArray.mk x.toArray).size=x.length:=by rfl
theorem OO{a:BinOp}{x y:List UInt8}{T:TypeId}{v:PV}(h:xd a x y=some v):∃u,(Go.binOp a T (.string ⟨x.toArray⟩) (.string ⟨y.toArray⟩)).run P w=.ok u w/\RelP N.fn w S v u:=by
 cases a;case add=>
  simp only[xd]at h;split at h
  ·rename_i b;simp[]at h;subst h;refine⟨.string ⟨(x++y).toArray⟩,?_,.str _⟩;have e:¬((((ByteArray.mk x.toArray).size+(ByteArray.mk y.toArray).size:Nat):Int)>IntKind.i64.max):=by rw[size_mk,size_mk,show IntKind.i64.max=maxI from rfl];omega
   simp only[Go.binOp,Go.Op.stringOp,if_neg e,Ta];simp
  grind
 all_goals simp[xd,]at h
 all_goals subst h;exact⟨_,by simp[Go.binOp,Go.Op.stringOp,bytesLess_eq],.bool _⟩
theorem RelP.int_inv{ν k n u}(h:RelP ν w S (.int k n) u):u=.int k n:=by cases h;rfl
theorem RelP.bool_inv{ν t u}(h:RelP ν w S (.bool t) u):u=.bool t:=by cases h;rfl
theorem RelP.str_inv{ν s u}(h:RelP ν w S (.str s) u):u=.string ⟨s.toArray⟩:=by cases h;rfl
def fO(P:Program)(t:TypeId):Nat->Bool
 |0=>match P.underlying t with|some (.int _)=>true|_=>false
 |1=>match P.underlying t with|some .bool=>true|_=>false
 |2=>match P.underlying t with|some .string=>true|_=>false
 |_=>false
def eqFs(P:Program):List Go.Field->List Nat->Nat->Bool|[],[],_=>true|f::fs,kd::ks,k=>f.name != "_"&&f.offset==k&&fO P f.type kd&&eqFs P fs ks (k+1)|_,_,_=>false
def eqsT(P:Program)(T:TypeId)(ks:List Nat):Bool:=match P.underlying T with|some (.struct fs)=>!P.stoodInHeld T&&!P.eqGuardType P.depth T&&eqFs P fs.toList ks 0|_=>false
def aggB(P:Program)(t:TypeId):Option Bool:=match P.underlying t with|some (.struct _)|some (.array _ _)=>some true|some _=>some false|none=>none
theorem tf{t:TypeId}{b:Bool}(h:aggB P t=some b):(Go.isAgg t).run P w=.ok b w:=by unfold aggB at h;cases a:P.underlying t with|none=>grind|some d=>rw[a]at h;cases d<;>simp[]at h<;>subst h<;>simp[Go.isAgg,Go.run_underlying a]
theorem Dn{t:TypeId}{kd:Nat}(a:fO P t kd=true):aggB P t=some false:=by
 unfold fO at a;split at a;all_goals first|cases a|skip
 all_goals
  split at a;·rename_i b;simp[aggB,b]
  grind
theorem nZ{t:TypeId}{xs:Array Value}{k:Nat}(a:aggB P t=some false)(b:k<xs.size):(Go.part t xs k).run P w=.ok (xs.getD k undef) w:=by simp[Go.part,tf a,b]
theorem uX{t:TypeId}{xs:Array Value}{k sz:Nat}(b:aggB P t=some true)(c:(P.info? t).map (·.size)=some sz):(Go.part t xs k).run P w=.ok (.agg (xs.extract k (k+sz))) w:=by let⟨i,hi,a⟩:=Option.map_eq_some_iff.1 c;simp[Go.part,tf b,Go.sizeOf,Go.typeInfo,hi,a]
theorem gz{t:TypeId}{kd:Nat}{xs:Array Value}{k:Nat}(a:fO P t kd=true)(b:k<xs.size):(Go.part t xs k).run P w=.ok (xs.getD k undef) w:=nZ (Dn a) b
theorem uP{d:Nat}{xs ys:Array Value}:∀(r:List Go.Field)(a:List Nat)(k:Nat)(o q:List PV)(b:Bool),eqFs P r a k=true->k+o.length<=xs.size->k+q.length<=ys.size->(∀(j:Nat)c,o[j]?=some c->RelP N.fn w S c (xs.getD (k+j) undef))->(∀(j:Nat)c,q[j]?=some c->RelP N.fn w S c (ys.getD (k+j) undef))->aN a o q=some b->(Go.Op.eqFields (d+1) xs ys r).run P w=.ok b w:=by intro r;induction r with
 |nil=>intro a k o q b u _ _ _ _ i;cases a with|nil=>cases o<;>cases q<;>simp[aN,]at i;subst i;rfl|cons=>simp[eqFs]at u
 |cons f r K=>intro a k o q b u F L z v i;cases a with|nil=>simp[eqFs]at u|cons kd a=>
   simp[eqFs,]at u;let⟨⟨⟨E,D⟩,m⟩,A⟩:=u;have p:∀(x y:PV)(g h:List PV)(t:Bool),o=x::g->q=y::h->(aN a g h).map (t&&·)=some b->(Go.Op.equalIn (d+1) f.type (xs.getD k undef) (ys.getD k undef)).run P w=.ok t w->(Go.Op.eqFields (d+1) xs ys (f::r)).run P w=.ok b w:=by
    intro x y g h t J G Q M;subst J G;simp[]at F L;have B:=gz (P:=P) (w:=w) (xs:=xs) (k:=k) m (by omega);have H:=gz (P:=P) (w:=w) (xs:=ys) (k:=k) m (by omega);simp only[Go.Op.eqFields,D,ne_eq,E,not_false_eq_true,if_true,Go.Sem.run_bind,B,H,Go.Result.andThen_ok,M];cases t;·simp_all
    ·simp[Bool.not_true,Bool.false_eq_true,if_false];exact K a (k+1) g h b A (by omega) (by omega) (λj c I=>by have :=z (j+1) c (by grind);grind) (λj c I=>by have :=v (j+1) c (by grind);grind) (by simp_all)
   unfold aN at i;split at i;·grind
   ·rename_i e;cases e;split at i
    ·rename_i C;have n:=(z 0 _ rfl).int_inv;have l:=(v 0 _ rfl).int_inv;rw[Nat.add_zero]at n l;refine p _ _ _ _ _ rfl rfl i ?_;rw[n,l,C];simp[fO]at m;split at m;·rename_i s;simp[Go.Op.equalIn,Go.run_underlying s]
     grind
    grind
   ·rename_i e;cases e;have n:=(z 0 _ rfl).bool_inv;have l:=(v 0 _ rfl).bool_inv;rw[Nat.add_zero]at n l;refine p _ _ _ _ _ rfl rfl i ?_;rw[n,l];simp[fO]at m;split at m;·rename_i s;simp[Go.Op.equalIn,Go.run_underlying s]
    grind
   ·rename_i e;cases e;have n:=(z 0 _ rfl).str_inv;have l:=(v 0 _ rfl).str_inv;rw[Nat.add_zero]at n l;refine p _ _ _ _ _ rfl rfl i ?_;rw[n,l];simp[fO]at m;split at m;·rename_i s;rw[Go.run_equalIn_string _ _ _ _ _ s];simp
    grind
   grind
theorem q_eqs{k:BinOp}{T:TypeId}{n:List Nat}{b:Bool}{x y:Operand}{r z v:AV}(m:k=if b then .neq else .eql)(e:eqsT P T n=true)(g:RelV N.fn w S μ H r (a.eval x))(f:RelV N.fn w S μ H z (a.eval y))(h:eqsA n b r z=some v):∃u,(do Go.eqGuard k T x y (a.eval x) (a.eval y);Go.binOp k T (a.eval x) (a.eval y)).run P w=.ok u w/\RelV N.fn w S μ H v u:=by
 unfold eqsA at h;split at h;·rename_i F D;obtain⟨t,G,rfl⟩:=Option.map_eq_some_iff.1 h;cases g with|p _ _ g=>cases f with|p _ _ f=>generalize a.eval x=M at*;generalize a.eval y=O at*;cases g with|agg _ xs K J I=>cases f with|agg _ ys k1 k2 Q=>
  unfold eqsT at e;split at e
  ·rename_i s o;simp[]at e;let⟨⟨E,A⟩,B⟩:=e;have i:P.fieldsOf T=s:=by simp[Program.fieldsOf,o]
   have L:=uP (P:=P) (w:=w) (N:=N) (S:=S) (d:=9998) (xs:=xs) (ys:=ys) s.toList n 0 F D t B (by omega) (by omega) (λj c C=>by grind) (λj c C=>by grind) G;have q:(Go.Op.equalIn 10000 T (.agg xs) (.agg ys)).run P w=.ok t w:=by rw[show(10000:Nat)=9999+1 from rfl,Go.run_equalIn_struct w 9999 T xs ys (by grind) E,i];grind
   subst m;cases b;·refine⟨.bool t,?_,.p _ _ (by cases t<;>exact .bool _)⟩;simp[Go.run_eqGuard_agg w _ T x y xs ys A,Go.run_eql_struct,q]
   ·refine⟨.bool (!t),?_,.p _ _ (by cases t<;>exact .bool _)⟩;simp[Go.run_eqGuard_agg w _ T x y xs ys A,Go.run_neq_struct,q]
  grind
 grind
def eqkT(P:Program)(T:TypeId):Nat->Bool
 |1=>match P.underlying T with|some .bool=>true|_=>false
 |3=>match P.underlying T with|some (.pointer _)=>true|_=>false
 |4=>match P.underlying T with|some (.slice _)=>true|_=>false
 |5=>match P.underlying T with|some (.func _ _ _)=>true|_=>false
 |_=>false
def oX:Value->Bool|.bool _|.pointer _|.slice _ _ _|.func _ _ _|.nilFunc=>true|_=>false
theorem mL{a:BinOp}{T:TypeId}{x y:Operand}{u v:Value}(h:oX u=true):(Go.eqGuard a T x y u v).run P w=.ok () w:=by cases u<;>simp[oX,]at h<;>cases a<;>simp[Go.eqGuard]
theorem uw{T:TypeId}{u v:Value}{t:Bool}(a:Bool)(h:oX u=true)(f:oX v=true)(d:(Go.Op.equalIn 10000 T u v).run P w=.ok t w):(Go.binOp (if a then .neq else .eql) T u v).run P w=.ok (.bool (t !=a)) w:=by
 have e:(Go.Op.equal T u v).run P w=.ok t w:=d;have g:∀b:BinOp,b=.eql\/b=.neq->Go.binOp b T u v=(match b with|.eql=>(do pure (.bool (<-Go.Op.equal T u v)))|_=>do pure (.bool (!(<-Go.Op.equal T u v)))):=by intro b c;cases u<;>simp[oX,]at h<;>cases v<;>simp[oX,]at f<;>rcases c with rfl|rfl<;>rfl
 cases a;all_goals simp[*]
section


variable{d:Nat}{T:TypeId}
theorem Rq(a:P.underlying T=some .bool)(m n:Bool):(Go.Op.equalIn (d+1) T (.bool m) (.bool n)).run P w=.ok (m==n) w:=by simp[Go.Op.equalIn,Go.run_underlying a]
theorem DH{e}(a:P.underlying T=some (.pointer e))(m:Option Addr):(Go.Op.equalIn (d+1) T (.pointer m) (.pointer none)).run P w=.ok m.isNone w:=by cases m<;>simp[Go.Op.equalIn,Go.run_underlying a]
theorem GS{e}(a:P.underlying T=some (.pointer e))(m:Option Addr):(Go.Op.equalIn (d+1) T (.pointer none) (.pointer m)).run P w=.ok m.isNone w:=by simp[Go.Op.equalIn,Go.run_underlying a]
theorem Ah{e}(f:P.underlying T=some (.slice e))(m:Option Addr)(n c a b:Nat):(Go.Op.equalIn (d+1) T (.slice m n c) (.slice none a b)).run P w=.ok m.isNone w:=by cases m<;>simp[Go.Op.equalIn,Go.run_underlying f]
theorem Ti{a b c}(e:P.underlying T=some (.func a b c))(f x y):(Go.Op.equalIn (d+1) T (.func f x y) .nilFunc).run P w=.ok false w:=by simp[Go.Op.equalIn,Go.run_underlying e]
theorem PA{a b c}(e:P.underlying T=some (.func a b c)):(Go.Op.equalIn (d+1) T .nilFunc .nilFunc).run P w=.ok true w:=by simp[Go.Op.equalIn,Go.run_underlying e]
end
theorem q_eqk{B:BinOp}{T:TypeId}{kd:Nat}{e:Bool}{x y:Operand}{G K v:AV}(A:B=if e then .neq else .eql)(J:eqkT P T kd=true)(i:RelV N.fn w S μ H G (a.eval x))(f:RelV N.fn w S μ H K (a.eval y))(I:eqkA kd e G K=some v):∃u,(do Go.eqGuard B T x y (a.eval x) (a.eval y);Go.binOp B T (a.eval x) (a.eval y)).run P w=.ok u w/\RelV N.fn w S μ H v u:=by
 unfold eqkA at I;obtain⟨t,o,rfl⟩:=Option.map_eq_some_iff.1 I;subst A;generalize a.eval x=q at*;generalize a.eval y=r at*;have b:oX q=true->oX r=true->(Go.Op.equalIn 10000 T q r).run P w=.ok t w->∃u,(do Go.eqGuard (if e=true then .neq else .eql) T x y q r;Go.binOp (if e=true then .neq else .eql) T q r).run P w=.ok u w/\RelV N.fn w S μ H (.p (.bool (t !=e))) u:=by intro L O M;refine⟨.bool (t !=e),?_,.p _ _ (.bool _)⟩;simp[mL L,];exact uw e L O M
 unfold eqK at o;split at o;case h_14=>grind
 all_goals
  simp[]at o;subst o;simp[eqkT]at J;split at J;rotate_left;·grind
  rename_i h
 ·rw[i.bool_inv,f.bool_inv]at b⊢;exact b rfl rfl (Rq h _ _)
 ·have d:=i.p_inv;have c:=f.p_inv;cases d;cases c;exact b rfl rfl (DH h _)
 ·have d:=i.p_inv;have c:=f.p_inv;cases d;cases c;exact b rfl rfl (DH h _)
 ·have d:=i.p_inv;have c:=f.p_inv;cases d;cases c;exact b rfl rfl (GS h _)
 ·let⟨g,d,_⟩:=i.bx_inv;have c:=f.p_inv;subst d;cases c;exact b rfl rfl (DH h _)
 ·let⟨g,d,_⟩:=f.bx_inv;have c:=i.p_inv;subst d;cases c;exact b rfl rfl (GS h _)
 ·have d:=i.p_inv;have c:=f.p_inv;cases d with|sl _ _ _ F D l _ _ _ m _ _ _ _=>cases c with|sl _ _ _ z C k _ _ _ j _ _ _ _=>obtain⟨_,rfl,_⟩:=m (.inl rfl);obtain⟨_,rfl,_⟩:=j (.inl rfl);exact b rfl rfl (Ah h _ _ _ _ _)
 ·have d:=i.p_inv;have c:=f.p_inv;cases d with|sl _ _ _ F D l _ _ _ _ m _ _ _=>cases c with|sl _ _ _ z C k _ _ _ j _ _ _ _=>let⟨n,_⟩:=m (.inl rfl);obtain⟨_,rfl,_⟩:=j (.inl rfl);obtain⟨s,rfl⟩:=Option.isSome_iff_exists.1 n;exact b rfl rfl (Ah h _ _ _ _ _)
 ·have d:=i.p_inv;have c:=f.p_inv;cases d with|sl _ _ _ F D l _ _ _ _ m _ _ _=>cases c with|sl _ _ _ z C k _ _ _ j _ _ _ _=>let⟨n,_⟩:=m (.inr rfl);obtain⟨_,rfl,_⟩:=j (.inl rfl);obtain⟨s,rfl⟩:=Option.isSome_iff_exists.1 n;exact b rfl rfl (Ah h _ _ _ _ _)
 ·have d:=i.p_inv;have c:=f.p_inv;cases d with|sl _ _ _ F D l _ _ _ _ _ n _ _=>cases c with|sl _ _ _ z C k _ _ _ j _ _ _ _=>obtain⟨_,rfl,_⟩:=n (by simp);obtain⟨_,rfl,_⟩:=j (.inl rfl);exact b rfl rfl (Ah h _ _ _ _ _)
 ·have d:=i.p_inv;have c:=f.p_inv;cases d;cases c;exact b rfl rfl (PA h)
 ·have d:=i.p_inv;have c:=f.p_inv;cases d;cases c;exact b rfl rfl (Ti h _ _ _)
 ·have c:=f.p_inv;cases i;cases c;exact b rfl rfl (Ti h _ _ _)
theorem vo{T:TypeId}{a:Addr}{u:Value}(b:aggB P T=some false)(h:w.cell? a=some u):(Go.Instr.loadAt T (.pointer (some a))).run P w=.ok u w:=by simp[Go.Instr.loadAt,Go.Instr.sureAddr,Go.loadVar,tf b,h]
theorem vp{T:TypeId}{b:Addr}{sz:Nat}{us:Nat->Value}(d:aggB P T=some true)(c:(P.info? T).map (·.size)=some sz)(h:∀j,j<sz->w.cell? (b.add j)=some (us j)):(Go.Instr.loadAt T (.pointer (some b))).run P w=.ok (.agg ((List.range sz).map us).toArray) w:=by let⟨i,hi,a⟩:=Option.map_eq_some_iff.1 c;simp[Go.Instr.loadAt,Go.Instr.sureAddr,Go.loadVar,tf d,Go.sizeOf,Go.typeInfo,hi,a,Go.run_loadCells w b sz us h]
theorem jB{a:Type}{cs:List a}{n j:Nat}{c:a}(h:(cs.take n)[j]?=some c):j<n/\cs[j]?=some c:=by grind
theorem jq:∀{cs:List AV}{ps},iT cs=some ps->cs=ps.map .p
 |[],ps,h=>by simp[iT,]at h;grind|c::cs,ps,h=>by cases c<;>simp only[iT,reduceCtorEq]at h;obtain⟨d,a,rfl⟩:=Option.map_eq_some_iff.1 h;rw[jq a];rfl
theorem RelV.mkAgg{cs:List AV}{us:Array Value}(f:us.size=cs.length)(d:∀c∈cs,c.one=true)(b:∀j c,cs[j]?=some c->RelV N.fn w S μ H c (us.getD j undef)):RelV N.fn w S μ H (Ab.mkAgg cs) (.agg us):=by
 unfold Ab.mkAgg;split;·rename_i ps g;have e:=jq g;subst e;refine .p _ _ (.agg ps us (by grind) (λc a=>d (.p c) (List.mem_map_of_mem a)) (λj c a=>?_));exact(b j (.p c) (by grind)).p_inv
 ·exact .agg cs us f d b
theorem BQ{T:TypeId}{sz:Nat}{ag:Bool}{e:Addr}{cs:List PV}{us:Nat->Value}{v:AV}(f:aggB P T=some ag)(k:(P.info? T).map (·.size)=some sz)(h:∀c∈cs,c.one=true)(d:∀j c,cs[j]?=some c->w.cell? (e.add j)=some (us j))(g:∀j c,cs[j]?=some c->RelP N.fn w S c (us j))(a:qb sz ag cs=some v):∃u,(Go.Instr.loadAt T (.pointer (some e))).run P w=.ok u w/\RelV N.fn w S μ H v u:=by
 unfold qb at a;cases ag;·simp[]at a;obtain⟨c,b,rfl⟩:=a;cases cs with|nil=>grind|cons x xs=>simp[]at b;subst b;refine⟨us 0,vo f ?_,.p _ _ (g 0 x rfl)⟩;simpa[Addr.add]using d 0 x rfl
 ·simp only[if_true]at a;split at a
  ·rename_i n;simp[]at a;subst a;refine⟨_,vp (us:=us) f k (λj l=>d j _ (List.getElem?_eq_getElem (by omega))),.p _ _ (.agg _ _ ?_ (λc b=>h c (List.mem_of_mem_take b)) (λj c b=>?_))⟩;·grind
   ·let⟨l,i⟩:=jB b;simp[*]
  grind
theorem Oi{T:TypeId}{sz:Nat}{ag:Bool}{d:Addr}{cs:List AV}{us:Nat->Value}{v:AV}(f:aggB P T=some ag)(h:(P.info? T).map (·.size)=some sz)(l:∀c∈cs,c.one=true)(e:∀j c,cs[j]?=some c->w.cell? (d.add j)=some (us j))(g:∀j c,cs[j]?=some c->RelV N.fn w S μ H c (us j))(a:takeA sz ag cs=some v):∃u,(Go.Instr.loadAt T (.pointer (some d))).run P w=.ok u w/\RelV N.fn w S μ H v u:=by
 unfold takeA at a;cases ag;·simp[]at a;cases cs with|nil=>grind|cons x xs=>simp[]at a;subst a;refine⟨us 0,vo f ?_,g 0 x rfl⟩;simpa[Addr.add]using e 0 x rfl
 ·simp only[if_true]at a;split at a
  ·rename_i m;simp[]at a;subst a;refine⟨_,vp (us:=us) f h (λj i=>e j _ (List.getElem?_eq_getElem (by omega))),RelV.mkAgg ?_ (λc b=>l c (List.mem_of_mem_take b)) (λj c b=>?_)⟩;·grind
   ·let⟨i,k⟩:=jB b;simp[*]
  grind
theorem Rel.box_of(f:Rel N.fn w S μ H){e:Nat}{cs:List AV}(h:dj H e=some cs):∃g a t,μ e=.pointer (some ⟨g,0,none⟩)/\w.heap[g]?=some (.cells a t (0,0))/\a.size=cs.length/\(∀c∈cs,c.one=true)/\∀j c,cs[j]?=some c->RelV N.fn w S μ H c (a.getD j undef):=by
  unfold dj at h;split at h;·grind
  · rename_i k b l;simp[]at h;subst h;obtain⟨g,m,⟨a,t,n⟩|⟨s,i,rfl,_⟩|⟨o,a,d,rfl,_⟩⟩:=f.blk e _ l;·grind
    ·exact(b _ rfl).elim
    ·exact(b _ rfl).elim
  grind
theorem jo{a:Nat}{cs:List AV}(h:dj H a=some cs):H[a]?=some (.box cs):=by unfold dj at h;grind
theorem cl{a n:Nat}{r:Nat×List PV}(h:rowOf H a n=some r):∃f,H[a]?=some (.row f r.1 r.2)/\r.2.length=n:=by unfold rowOf at h;grind
theorem pr{v:Value}{sz n g cap:Nat}{us:List Value}(h:RowAt w v sz n us)(f:v=.slice (some ⟨g,0,none⟩) n cap){j:Nat}(q:j<n*sz):w.cell? ⟨g,j,none⟩=some (us.getD j undef):=by
 let⟨i,h⟩:=h;rcases h with⟨rfl,_⟩|⟨l,d,b,e,a,_,c,p,_,k,r⟩;·grind
 ·rw[f]at a;cases a;let⟨m,c,_⟩:=c;rw[Go.cell_of_row w g j b e _ c];grind
theorem PZ(F:Rel N.fn w S μ H){T:TypeId}{sz:Nat}{ag:Bool}{x:Value}{I v:AV}(D:aggB P T=some ag)(s:(P.info? T).map (·.size)=some sz)(l:RelV N.fn w S μ H I x)(b:kj H sz ag I=some v):∃u,(Go.Instr.loadAt T x).run P w=.ok u w/\RelV N.fn w S μ H v u:=by
 unfold kj at b;split at b;·cases l with|p _ _ l=>cases l with|ptr C Z us X Y O U A=>exact BQ D s O U A b
 ·rename_i J a;let⟨cs,d,b⟩:=Option.bind_eq_some_iff.1 b;have q:=d;have d:=jo d;obtain⟨g,rfl,V,R⟩:=l.bx_inv;let⟨g',k,t,m,B,M,Q,e5⟩:=F.box_of q;rw[R cs d]at m;cases m;refine Oi (us:=λj=>k.getD (a+j) undef) D s (λc e=>Q c (List.mem_of_mem_drop e)) (λj c e=>?_) (λj c e=>?_) b
  ·rw[List.getElem?_drop]at e;have z:a+j<k.size:=by grind
   rw[Addr.add_lit,Go.cell_of_row w g _ k t _ B];simp_all
  grind
 ·rename_i J n i a;let⟨r,d,b⟩:=Option.bind_eq_some_iff.1 b;let⟨y,K,b⟩:=Option.bind_eq_some_iff.1 b;let⟨f,d,E⟩:=cl d;have hi:i<n:=by grind
  let⟨L,_,us,m,B,M,_⟩:=F.blk J _ d;cases l with|el _ _ _ _ _ V h G=>
  let⟨_,A⟩:=h f _ _ d;obtain⟨g,cap,W,rfl⟩:=(A E.symm).1 hi;rw[E]at m;have o:=List.mem_of_getElem? K;refine BQ (us:=λj=>us.getD (i*r.1+(a+j)) undef) D s (λc e=>(B y o).2 c (List.mem_of_mem_drop e)) (λj c e=>?_) (λj c e=>?_) b
  ·rw[List.getElem?_drop]at e;have z:a+j<r.1:=by grind
   rw[Addr.add_lit,Nat.add_assoc];refine pr m W ?_;calc i*r.1+(a+j)<i*r.1+r.1:=by omega
    _=(i+1)*r.1:=by grind
    _<=n*r.1:=Nat.mul_le_mul_right _ hi
  grind
 grind
end
section


variable{Γ:Ctx}{N:Names}{P:Program}{w:World}{S:Nat->Prop}{μ:Nat->Value}{H:Heap}{σ:Nat->AV}{a:Act}
theorem q_bin{b:BinOp}{T:TypeId}{x y:Operand}{j o v:AV}(l:RelV N.fn w S μ H j (a.eval x))(h:RelV N.fn w S μ H o (a.eval y))(f:cb b j o=some v):∃u,(do Go.eqGuard b T x y (a.eval x) (a.eval y);Go.binOp b T (a.eval x) (a.eval y)).run P w=.ok u w/\RelV N.fn w S μ H v u:=by
 unfold cb at f;split at f
 ·obtain⟨r,c,rfl⟩:=Option.map_eq_some_iff.1 f;unfold ly at c;split at c
  ·split at c
   ·rename_i z;rw[l.int_inv,h.int_inv];let⟨u,q,d⟩:=MR (P:=P) (w:=w) (N:=N) (S:=S) (T:=T) z c;refine⟨u,?_,.p _ _ d⟩;have e:∀k i m n,(Go.eqGuard b T x y (Value.int k m) (Value.int i n)).run P w=.ok () w:=by intro k i m n;cases b<;>simp[Go.eqGuard]
    simp[*]
   grind
  ·rw[l.str_inv,h.str_inv];let⟨u,q,d⟩:=OO (P:=P) (w:=w) (N:=N) (S:=S) (T:=T) c;refine⟨u,?_,.p _ _ d⟩;have e:∀s t,(Go.eqGuard b T x y (Value.string s) (Value.string t)).run P w=.ok () w:=by intro s t;cases b<;>simp[Go.eqGuard]
   simp[*]
  grind
 grind
theorem q_un{f:UnOp}{x:Value}{e v:AV}(c:RelV N.fn w S μ H e x)(b:unA f e=some v):∃u,(Go.Op.unary f x).run P w=.ok u w/\RelV N.fn w S μ H v u:=by
 unfold unA at b;split at b
 ·obtain⟨r,a,rfl⟩:=Option.map_eq_some_iff.1 b;unfold unPV at a;split at a;·simp[]at a;subst a;rw[c.int_inv];exact⟨_,by rfl,.p _ _ (by simpa using RelP.int _ _)⟩
  ·simp[]at a;subst a;rw[c.int_inv];exact⟨_,by rfl,.p _ _ (.int _ _)⟩
  ·simp[]at a;subst a;rw[c.bool_inv];exact⟨_,by rfl,.p _ _ (.bool _)⟩
  grind
 grind
def intT(P:Program)(T:TypeId):Option IntKind:=match P.underlying T with|some (.int k)=>some k|_=>none
def strT(P:Program)(T:TypeId):Bool:=match P.underlying T with|some .string=>true|_=>false
def slT(P:Program)(T:TypeId):Option TypeId:=match P.underlying T with|some (.slice e)=>some e|_=>none
theorem ow{T k}(h:intT P T=some k):P.underlying T=some (.int k):=by unfold intT at h;grind
theorem gT{T}(h:strT P T=true):P.underlying T=some .string:=by unfold strT at h;grind
theorem cZ{T e}(h:slT P T=some e):P.underlying T=some (.slice e):=by unfold slT at h;grind
theorem Rv{s d:TypeId}{c:IntKind}{x:Value}{b v:AV}(e:intT P s=some c)(g:strT P d=true)(f:RelV N.fn w S μ H b x)(a:sf b=some v):∃u,(Go.convert s d x).run P w=.ok u w/\RelV N.fn w S μ H v u:=by
 unfold sf at a;split at a;·simp[]at a;subst a;rw[f.int_inv];exact⟨.string (Go.Utf8.encode _),by simp[Go.convert,Go.run_underlying (ow e),Go.run_underlying (gT g),Go.Conv.intToString],.p _ _ (.str _)⟩
 grind
theorem q_conv{s d:TypeId}{k f:IntKind}{x:Value}{c v:AV}(g:intT P s=some f)(h:intT P d=some k)(e:RelV N.fn w S μ H c x)(b:Tb k c=some v):∃u,(Go.convert s d x).run P w=.ok u w/\RelV N.fn w S μ H v u:=by
 unfold Tb at b;split at b;·simp[]at b;subst b;rw[e.int_inv];exact⟨_,by simp[Go.convert,Go.run_underlying (ow g),Go.run_underlying (ow h),Go.Conv.intToInt],.p _ _ (.int _ _)⟩
 grind
theorem q_same{s d:TypeId}{x:Value}{c v:AV}(e:strT P s=true)(g:strT P d=true)(f:RelV N.fn w S μ H c x)(b:sameA c=some v):∃u,(Go.convert s d x).run P w=.ok u w/\RelV N.fn w S μ H v u:=by
 unfold sameA at b;split at b;·simp[]at b;subst b;rw[f.str_inv];exact⟨_,by simp[Go.convert,Go.run_underlying (gT e),Go.run_underlying (gT g)],.p _ _ (.str _)⟩
 grind
theorem RelV.own_inv{ν a n u r}(h:RelV ν w S μ H (.own a n) u)(b:rowOf H a n=some r):u=μ a:=by let⟨f,c,d⟩:=cl b;cases h with|own _ _ _ _ h _=>grind
theorem q_len{T:TypeId}{x:Value}{k:AV}{n:Nat}{t0:TypeId}{s:Bool}(o:Rel N.fn w S μ H)(b:if s then strT P T=true else(slT P T).isSome=true)(h:RelV N.fn w S μ H k x)(a:jm H s k=some n):(Go.Builtin.len_ #[T] t0 #[x]).run P w=.ok (.int .i64 n) w:=by
 unfold jm at a;split at a;·simp[]at a;subst a;rw[h.str_inv];simp[]at b;simp[Go.Builtin.len_,Go.run_underlying (gT b),Go.goInt,size_mk]
 ·simp[]at a;subst a;simp[]at b;let⟨e,c⟩:=Option.isSome_iff_exists.1 b;have v:=h.p_inv;cases v;simp[Go.Builtin.len_,Go.run_underlying (cZ c),Go.goInt]
 ·rename_i u m;let⟨r,j,c⟩:=Option.map_eq_some_iff.1 a;subst c;simp[]at b;let⟨e,c⟩:=Option.isSome_iff_exists.1 b;rw[h.own_inv j];let⟨f,p,t⟩:=cl j;let⟨_,_,us,d,_⟩:=o.blk u _ p;let⟨_,d⟩:=d;rw[t]at d;rcases d with⟨rfl,a0,l⟩|⟨g,cap,q,y,l,_⟩<;>rw[l]<;>simp[Go.Builtin.len_,Go.run_underlying (cZ c),Go.goInt]
 grind
theorem q_idx{T:TypeId}{x i:Value}{g f v:AV}(m:strT P T=true)(n:RelV N.fn w S μ H g x)(hi:RelV N.fn w S μ H f i)(a:idxA g f=some v):∃u,(Go.Instr.index T x i).run P w=.ok u w/\RelV N.fn w S μ H v u:=by
 unfold idxA at a;split at a
 ·split at a
  ·rename_i s k i d;obtain⟨b,j,rfl⟩:=Option.map_eq_some_iff.1 a;rw[n.str_inv,hi.int_inv];have l:=(List.getElem?_eq_some_iff.1 j).1;have e:(ByteArray.mk s.toArray)[i.toNat]?=some b:=by rw[getElem?_pos _ _ (by rw[size_mk];grind)];have :=(List.getElem?_eq_some_iff.1 j).2;rw[<-this];rfl
   exact⟨_,by simp[Go.Instr.index,Go.asIntOf,Go.run_underlying (gT m),d,e],.p _ _ (.int _ _)⟩
  grind
 grind
theorem Tc{a:Type}{l:List a}{j:Nat}{d:a}:l.toArray.getD j d=l.getD j d:=by simp
theorem vb{us:Array Value}{i j n:Nat}(b:j<n)(h:i+n<=us.size):(us.extract i (i+n)).getD j undef=us.getD (i+j) undef:=by rw[Array.getD_eq_getD_getElem?,Array.getD_eq_getD_getElem?,Array.getElem?_extract];grind
theorem Bj{T:TypeId}{sz a:Nat}{ag:Bool}{cs:List PV}{us:Array Value}{v:AV}(h:aggB P T=some ag)(l:(P.info? T).map (·.size)=some sz)(o:us.size=cs.length)(i:∀c∈cs,c.one=true)(n:∀j c,cs[j]?=some c->RelP N.fn w S c (us.getD j undef))(b:qb sz ag (cs.drop a)=some v):∃u,(Go.part T us a).run P w=.ok u w/\RelV N.fn w S μ H v u:=by
 unfold qb at b;cases ag
 ·simp only[Bool.false_eq_true,if_false,Option.map_eq_some_iff]at b;obtain⟨c,d,rfl⟩:=b;rw[List.head?_drop]at d;have f:a<us.size:=by grind
  exact⟨_,nZ h f,.p _ _ (n _ _ d)⟩
 ·simp only[if_true]at b;split at b
  ·rename_i m;simp[]at b;subst b;rw[List.length_drop]at m;refine⟨_,uX h l,.p _ _ (.agg _ _ ?_ (λc d=>i c (List.mem_of_mem_drop (List.mem_of_mem_take d))) (λj c d=>?_))⟩;·grind
   ·let⟨k,g⟩:=jB d;rw[List.getElem?_drop]at g;by_cases e:a+sz<=us.size;·rw[vb k e];grind
    grind
  grind
theorem Oc{T:TypeId}{sz a:Nat}{ag:Bool}{cs:List AV}{us:Array Value}{v:AV}(h:aggB P T=some ag)(l:(P.info? T).map (·.size)=some sz)(o:us.size=cs.length)(i:∀c∈cs,c.one=true)(n:∀j c,cs[j]?=some c->RelV N.fn w S μ H c (us.getD j undef))(b:takeA sz ag (cs.drop a)=some v):∃u,(Go.part T us a).run P w=.ok u w/\RelV N.fn w S μ H v u:=by
 unfold takeA at b;cases ag
 ·simp only[Bool.false_eq_true,]at b;rw[List.head?_drop]at b;have f:a<us.size:=by grind
  exact⟨_,nZ h f,n _ _ b⟩
 ·simp only[if_true]at b;split at b
  ·rename_i m;simp[]at b;subst b;rw[List.length_drop]at m;refine⟨_,uX h l,RelV.mkAgg ?_ (λc d=>i c (List.mem_of_mem_drop (List.mem_of_mem_take d))) (λj c d=>?_)⟩;·grind
   ·let⟨k,g⟩:=jB d;rw[List.getElem?_drop]at g;by_cases e:a+sz<=us.size;·rw[vb k e];grind
    grind
  grind
def arrT(P:Program)(T:TypeId):Option (Nat×TypeId):=match P.underlying T with|some (.array n e)=>some (n,e)|_=>none
theorem FX{T n e}(h:arrT P T=some (n,e)):P.underlying T=some (.array n e):=by unfold arrT at h;grind
theorem run_sizeOf{T sz}(c:(P.info? T).map (·.size)=some sz):(Go.sizeOf T).run P w=.ok sz w:=by let⟨i,hi,b⟩:=Option.map_eq_some_iff.1 c;simp[Go.sizeOf,Go.typeInfo,hi,b]
theorem q_aidx{T e:TypeId}{sz n:Nat}{ag:Bool}{x i:Value}{h l v:AV}(r:arrT P T=some (n,e))(y:aggB P e=some ag)(g:(P.info? e).map (·.size)=some sz)(c:RelV N.fn w S μ H h x)(hi:RelV N.fn w S μ H l i)(b:aidxA sz ag n h l=some v):∃u,(Go.Instr.index T x i).run P w=.ok u w/\RelV N.fn w S μ H v u:=by
 unfold aidxA at b;split at b
 ·rename_i cs k i;split at b;·rename_i m;let⟨d,f,j⟩:=m;rw[hi.int_inv];cases c with|p _ _ c=>cases c with|agg _ us q t s=>let⟨u,o,z⟩:=Bj (P:=P) (N:=N) (w:=w) (S:=S) (μ:=μ) (H:=H) y g q t s b;refine⟨u,?_,z⟩;simp[Go.Instr.index,Go.asIntOf,Go.run_underlying (FX r),d,f,run_sizeOf g,o]
  grind
 grind
def ue(P:Program)(T:TypeId):Option (Array Go.Field):=match P.underlying T with|some (.struct fs)=>some fs|_=>none
theorem oc{T a}(h:ue P T=some a):P.underlying T=some (.struct a):=by unfold ue at h;grind
theorem q_fld{T:TypeId}{o:Array Go.Field}{f:Go.Field}{k a sz:Nat}{ag:Bool}{x:Value}{n v:AV}(q:ue P T=some o)(l:o[k]?=some f)(s:f.offset=a)(r:aggB P f.type=some ag)(m:(P.info? f.type).map (·.size)=some sz)(c:RelV N.fn w S μ H n x)(b:fldA a sz ag n=some v):∃u,(Go.Instr.field T x k).run P w=.ok u w/\RelV N.fn w S μ H v u:=by
 subst s;unfold fldA at b;split at b;·cases c with|p _ _ c=>cases c with|agg _ us h g e=>let⟨u,i,d⟩:=Bj (P:=P) (N:=N) (w:=w) (S:=S) (μ:=μ) (H:=H) r m h g e b;exact⟨u,by simp[Go.Instr.field,Go.run_underlying (oc q),l,Go.asAgg,i],d⟩
 ·cases c with|agg _ us h g e=>let⟨u,i,d⟩:=Oc (P:=P) (N:=N) (w:=w) (S:=S) (μ:=μ) (H:=H) r m h g e b;exact⟨u,by simp[Go.Instr.field,Go.run_underlying (oc q),l,Go.asAgg,i],d⟩
 grind
theorem vk{d:Addr}{cs:List PV}{us:Nat->Value}{a:Nat}(l:a<cs.length)(g:S d.block)(f:∀c∈cs,c.one=true)(h:∀j c,cs[j]?=some c->w.cell? (d.add j)=some (us j))(i:∀j c,cs[j]?=some c->RelP N.fn w S c (us j)):RelP N.fn w S (.ptr (cs.drop a)) (.pointer (some (d.add a))):=by
 refine .ptr _ _ (λj=>us (a+j)) (λe=>?_) (by rw[block_add];grind) (λc b=>f c (List.mem_of_mem_drop b)) (λj c b=>?_) (λj c b=>?_);·rw[List.drop_eq_nil_iff]at e;omega
 ·rw[List.getElem?_drop]at b;rw[add_add];grind
 grind
theorem q_faddr{T:TypeId}{B:Array Go.Field}{f:Go.Field}{k d:Nat}{x:Value}{A v:AV}(I:ue P T=some B)(J:B[k]?=some f)(G:f.offset=d)(O:(P.info? f.type).any (·.size !=0)=true)(c:RelV N.fn w S μ H A x)(a:qg H d A=some v):∃u,(Go.Instr.fieldAt T x k).run P w=.ok u w/\RelV N.fn w S μ H v u:=by
 subst G;let⟨i,hi,s⟩:∃i,P.info? f.type=some i/\¬i.size=0:=by cases h:P.info? f.type with|none=>grind|some i=>grind
 have b:∀j:Addr,(Go.Instr.fieldAt T (.pointer (some j)) k).run P w=.ok (.pointer (some (j.add f.offset))) w:=by intro j;simp[Go.Instr.fieldAt,Go.run_underlying (oc I),J,Go.Instr.sureAddr,Go.fieldPlace,Go.sizeOf,Go.typeInfo,hi,s]
 unfold qg at a;split at a
 ·split at a;·rename_i z;simp[]at a;subst a;cases c with|p _ _ c=>cases c with|ptr q j us L m r C y=>exact⟨_,b j,.p _ _ (vk z m r C y)⟩
  grind
 ·simp[]at a;subst a;obtain⟨g,rfl,z,F⟩:=c.bx_inv;exact⟨_,b _,.bx _ _ g _ z F (by rw[Addr.add_lit])⟩
 ·rename_i Q n i o;unfold ifB at a;split at a;·rename_i t;simp[]at a;subst a;obtain⟨M,sz,xs,g,cap,m,r,C,y,rfl⟩:=c.el_inv t;refine⟨_,b _,.el _ _ _ _ _ (List.getElem?_eq_some_iff.1 m).1 (λR D E e=>?_) rfl⟩;rw[m]at e;cases e;exact⟨Nat.le_of_eq r.symm,λ_=>⟨λ_=>⟨g,cap,y,by rw[Addr.add_lit,Nat.add_assoc]⟩,λK=>by omega⟩⟩
  grind
 grind
theorem q_iaddr{T e:TypeId}{sz:Nat}{x i:Value}{E F v:AV}(G:0<sz)(U:Rel N.fn w S μ H)(K:slT P T=some e)(J:(P.info? e).map (·.size)=some sz)(o:RelV N.fn w S μ H E x)(hi:RelV N.fn w S μ H F i)(b:iaddrA H sz E F=some v):∃u,(Go.Instr.indexAt T x i).run P w=.ok u w/\RelV N.fn w S μ H v u:=by
 have h:∀(l:Addr)(n cap:Nat)(k:IntKind)(i:Int),0<=i->i<n->(Go.Instr.indexAt T (.slice (some l) n cap) (.int k i)).run P w=.ok (.pointer (some (l.add (i.toNat*sz)))) w:=by intro l n cap k i m r;simp[Go.Instr.indexAt,Go.asIntOf,Go.run_underlying (cZ K),m,r,run_sizeOf J]
 unfold iaddrA at b;split at b
 ·rename_i k C xs k i;split at b;·rename_i z;obtain⟨rfl,m⟩:=z;obtain⟨y,A,rfl⟩:=Option.map_eq_some_iff.1 b;rw[hi.int_inv];have L:=(List.getElem?_eq_some_iff.1 A).1;cases o with|p _ _ o=>cases o with|sl _ _ _ a cap us r s q D B t Y X=>
    obtain⟨l,rfl,hS⟩:=t (by grind);refine⟨_,h l _ cap k i m (by omega),.p _ _ ?_⟩;have O:=q y (List.mem_of_getElem? A);refine .ptr _ _ (λj=>us i.toNat j) ?_ (by rw[block_add];grind) O.2 (λj c z=>?_) (λj c z=>X _ _ _ _ A z);·grind
    ·rw[add_add];grind
  grind
 ·rename_i V n k i;let⟨⟨C,xs⟩,I,b⟩:=Option.bind_eq_some_iff.1 b;simp[]at b;obtain⟨⟨rfl,m,r⟩,rfl⟩:=b;have M:=o.own_inv I;let⟨f,s,q⟩:=cl I;let⟨_,_,us,D,_⟩:=U.blk V _ s;let⟨_,B⟩:=D;rw[q]at B;rw[hi.int_inv,M];rcases B with⟨rfl,_⟩|⟨g,cap,R,e',t,_⟩;·omega
  ·rw[t];refine⟨_,h _ _ _ _ _ m r,.el _ _ _ _ _ (List.getElem?_eq_some_iff.1 s).1 (λf2 W Q e=>?_) rfl⟩;rw[s]at e;cases e;exact⟨Nat.le_of_eq q.symm,λ_=>⟨λ_=>⟨g,cap,t,by rw[Addr.add_lit];simp⟩,λZ=>by omega⟩⟩
 grind
theorem q_iaddrA{T e:TypeId}{sz n:Nat}{x i:Value}{o m v:AV}(t:arrT P T=some (n,e))(s:(P.info? e).map (·.size)=some sz)(j:RelV N.fn w S μ H o x)(hi:RelV N.fn w S μ H m i)(b:oH sz n o m=some v):∃u,(Go.Instr.indexAt T x i).run P w=.ok u w/\RelV N.fn w S μ H v u:=by
 have h:∀(d:Addr)(k:IntKind)(i:Int),0<=i->i<n->(Go.Instr.indexAt T (.pointer (some d)) (.int k i)).run P w=.ok (.pointer (some (d.add (i.toNat*sz)))) w:=by intro d k i f c;simp[Go.Instr.indexAt,Go.asIntOf,Go.Instr.sureAddr,Go.run_underlying (FX t),f,c,run_sizeOf s]
 unfold oH at b;split at b;·simp[]at b;obtain⟨⟨f,c,r⟩,rfl⟩:=b;rw[hi.int_inv];cases j with|p _ _ j=>cases j with|ptr l d us _ k1 k2 q y=>exact⟨_,h d _ _ f c,.p _ _ (vk r k1 k2 q y)⟩
 ·simp[]at b;obtain⟨⟨f,c⟩,rfl⟩:=b;rw[hi.int_inv];obtain⟨g,rfl,z,A⟩:=j.bx_inv;exact⟨_,h _ _ _ f c,.bx _ _ g _ z A (by rw[Addr.add_lit])⟩
 grind
def RelO(ν:Nat->Nat)(w:World)(S:Nat->Prop)(μ:Nat->Value)(H:Heap)(o:Option AV)(u:Option Value):Prop:=match o,u with|none,none=>True|some x,some y=>RelV ν w S μ H x y|_,_=>False
theorem gy{sl:Bool}{n cap l h:Nat}{lo hi:Option AV}{lo' hi':Option Value}(hlo:RelO N.fn w S μ H lo lo')(hhi:RelO N.fn w S μ H hi hi')(hc:n<=cap)(h1:bound n n hi=some h)(h2:bound h 0 lo=some l):(Go.Instr.sliceBounds sl n cap lo' hi' none).run P w=.ok (l,h,cap) w/\l<=h/\h<=n:=by
 have bnd:∀{m d:Nat}{o:Option AV}{r:Nat},bound m d o=some r->(o=none->r=d)/\(o≠none->r<=m):=by
  intro m d o r hb;unfold bound at hb;split at hb;·exact⟨λ_=>by simpa using hb.symm,λh=>by simp at h⟩
  ·simp only[Option.ite_none_right_eq_some,Option.some.injEq]at hb;obtain⟨⟨h0,h1⟩,rfl⟩:=hb;exact⟨λh=>by simp at h,λ_=>by omega⟩
  ·cases hb
 have key:∀{m m' d:Nat}{o:Option AV}{y:Value}{r:Nat}(code:Go.BoundsCode),m<=m'->RelO N.fn w S μ H o (some y)->bound m d o=some r->(Go.Instr.sliceBound y m' code).run P w=.ok r w:=by
  intro m m' d o y r code hm hr hb;unfold bound at hb;split at hb;·exact hr.elim
  ·simp only[Option.ite_none_right_eq_some,Option.some.injEq]at hb;obtain⟨⟨h0,h1⟩,rfl⟩:=hb;rw[RelV.int_inv hr];have h2:(‹Int›:Int)<=m':=by omega
   simp[Go.Instr.sliceBound,Go.asIntOf,h0,h2]
  ·cases hb
 have hle:h<=n:=by cases hi with|none=>exact Nat.le_of_eq ((bnd h1).1 rfl)|some x=>exact(bnd h1).2 (by simp)
 have lle:l<=h:=by cases lo with|none=>rw[(bnd h2).1 rfl];exact Nat.zero_le _|some x=>exact(bnd h2).2 (by simp)
 refine⟨?_,lle,hle⟩;have e1:∀y,hi'=some y->(Go.Instr.sliceBound y cap (if sl=true then .sliceAcap else .sliceAlen)).run P w=.ok h w:=λy hy=>by subst hy;exact key _ hc hhi h1
 have e2:∀y,lo'=some y->(Go.Instr.sliceBound y h .sliceB).run P w=.ok l w:=λy hy=>by subst hy;exact key _ (Nat.le_refl _) hlo h2
 have e3:hi'=none->h=n:=by rintro rfl;cases hi with|none=>exact(bnd h1).1 rfl|some x=>exact hhi.elim
 have e4:lo'=none->l=0:=by rintro rfl;cases lo with|none=>exact(bnd h2).1 rfl|some x=>exact hlo.elim
 cases hi' with
 |none=>have :=e3 rfl;subst this;cases lo' with|none=>have :=e4 rfl;subst this;simp[Go.Instr.sliceBounds]|some y=>simp[Go.Instr.sliceBounds,e2 y rfl]
 |some z=>cases lo' with|none=>have :=e4 rfl;subst this;simp[Go.Instr.sliceBounds,e1 z rfl]|some y=>simp[Go.Instr.sliceBounds,e1 z rfl,e2 y rfl]
theorem Pi(s:List UInt8)(l h:Nat):(ByteArray.mk s.toArray).extract l h=⟨((s.take h).drop l).toArray⟩:=by apply ByteArray.ext;simp[List.drop_take]
theorem q_sliceS{T:TypeId}{x:Value}{g v:AV}{lo hi:Option AV}{d c:Option Value}(n:strT P T=true)(m:RelV N.fn w S μ H g x)(e:RelO N.fn w S μ H lo d)(f:RelO N.fn w S μ H hi c)(b:jb g lo hi=some v):∃u,(Go.Instr.sliceAt T x d c none).run P w=.ok u w/\RelV N.fn w S μ H v u:=by
 unfold jb at b;split at b;·rename_i s;let⟨h,i,b⟩:=Option.bind_eq_some_iff.1 b;obtain⟨l,k,rfl⟩:=Option.map_eq_some_iff.1 b;let⟨j,o,q⟩:=gy (P:=P) (sl:=false) (cap:=s.length) e f (Nat.le_refl _) i k;rw[m.str_inv];refine⟨.string ⟨((s.take h).drop l).toArray⟩,?_,.p _ _ (.str _)⟩;simp[Go.Instr.sliceAt,Go.Instr.slice,Go.run_underlying (gT n),size_mk,j,Pi]
 grind
theorem RelP.piece{xs:List PV}{k:SK}{sz cap l h:Nat}{a0:Option Addr}(b:RelP N.fn w S (.sl k sz xs) (.slice a0 xs.length cap))(D:l<=h)(J:h<=xs.length):RelP N.fn w S (.sl k.cut sz ((xs.take h).drop l)) (.slice (if cap=l then a0 else a0.map (·.add (l*sz))) (h-l) (cap-l)):=by generalize q:Value.slice a0 xs.length cap=C at b;cases b with|sl _ _ _ G m us H F v z A n I y=>
 cases q;have p:((xs.take h).drop l).length=h-l:=by grind
 have e:∀i x,((xs.take h).drop l)[i]?=some x->xs[l+i]?=some x/\l+i<h:=by grind
 rw[<-p];refine .sl _ _ _ _ _ (λi j=>us (l+i) j) (by omega) (by omega) (λx b=>v x (List.mem_of_mem_take (List.mem_of_mem_drop b))) (λa=>by
   have f:k=.nil\/a0=none:=by
    rcases a with a|a;·left;cases k<;>simp[SK.cut]at a⊢
    ·right;split at a;all_goals simp_all
   grind) (λa=>by
   have f:k=.tight\/k=.mem:=by cases k<;>simp[SK.cut]at a⊢
   refine⟨?_,λa=>by cases k<;>simp[SK.cut]at a⟩;grind) (λs=>?_) (λo d i x j c b g=>?_) (λi x j c b g=>y _ _ _ _ (e i x b).1 g)
 ·have u:l<h:=by grind
  obtain⟨o,rfl,E⟩:=n (by grind);rw[if_neg (by omega)];exact⟨_,rfl,by rw[block_add];grind⟩
 ·let⟨B,r⟩:=e i x b;obtain⟨t,rfl,_⟩:=n (by grind);rw[if_neg (by omega)]at d;simp[]at d;subst d;rw[add_add,<-Nat.add_assoc,<-Nat.add_mul];grind
theorem Ht{T e:TypeId}{sz:Nat}{x:Value}{j v:AV}{lo hi:Option AV}{b c:Option Value}(s:slT P T=some e)(r:(P.info? e).map (·.size)=some sz)(d:RelV N.fn w S μ H j x)(f:RelO N.fn w S μ H lo b)(g:RelO N.fn w S μ H hi c)(a:gN sz j lo hi=some v):∃u,(Go.Instr.sliceAt T x b c none).run P w=.ok u w/\RelV N.fn w S μ H v u:=by
 unfold gN at a;split at a;·rename_i k t xs;simp[]at a;obtain⟨rfl,a⟩:=a;let⟨h,m,a⟩:=Option.bind_eq_some_iff.1 a;obtain⟨l,o,rfl⟩:=Option.map_eq_some_iff.1 a;have d:=d.p_inv;have i:=d;cases d with|sl _ _ _ a0 cap us k1 k2 _ _ _ _ _ _=>let⟨y,q,n⟩:=gy (P:=P) (sl:=true) (cap:=cap) f g k1 m o;refine⟨_,?_,.p _ _ (i.piece q n)⟩;simp[Go.Instr.sliceAt,Go.Instr.slice,Go.run_underlying (cZ s),y,run_sizeOf r]
 grind
theorem q_ext{x:Value}{d v:AV}{i:Nat}(f:RelV N.fn w S μ H d x)(c:extA i d=some v):∃u,(Go.Instr.extract x i).run P w=.ok u w/\RelV N.fn w S μ H v u:=by
 unfold extA at c;split at c;·cases f with|tup _ us g e=>
  have b:i<us.size:=by grind
  exact⟨us.getD i undef,by simp[Go.Instr.extract,b],e _ _ c⟩
 grind
end
end Ab
