import Derived.Test.YtbehhmffelnmfaaGreatDoorAbZ8
set_option linter.all false
namespace Ab
open Go (Calls IntKind Obj Program TypeId Value World undef)
section


variable{ν:Nat->Nat}{w0 w w':World}{S0 S S':Nat->Prop}{μ0 μ μ':Nat->Value}{H0 H H':Heap}{b:Nat}
theorem Rel.blk_or(i:Rel ν w S μ H){a g:Nat}{c:Blk}(h:H[a]?=some c)(e:aO (μ a)=some g):S g\/alive μ H g:=by
 by_cases b:cW c;·exact .inr (alive_iff.2 ⟨a,c,h,b,e⟩)
 ·refine .inl ?_;have d:=i.blk a _ h;cases c with|box cs=>exact absurd (.inl ⟨cs,rfl⟩) b|dead=>exact d g e|row f sz xs=>cases f with|false=>exact absurd (.inr ⟨sz,xs,rfl⟩) b|true=>let⟨_,_,us,_,_,_,j⟩:=d;grind
theorem Rel.turn(a:Rel ν w S μ H)(b:w.heap.size<=w'.heap.size)(e:∀g,S g\/alive μ H g->w'.heap[g]?=w.heap[g]?):Rel ν w' S μ H where lt g h:=Nat.lt_of_lt_of_le (a.lt g h) b;blk i c h:=(a.blk i c h).keep (λ_ h=>h) (λg h=>e g (.inl h)) .refl rfl (λg f=>e g (a.blk_or h f));apart:=a.apart;inj:=a.inj
theorem Run.turn(h:Run ν w0 S0 μ0 H0 w S μ H)(a:w.heap.size<=w'.heap.size)(d:∀g,g<w0.heap.size\/S g\/alive μ H g->w'.heap[g]?=w.heap[g]?)(f:w'.os=w.os)(i:w'.tape=w.tape)(j:w'.output=w.output):Run ν w0 S0 μ0 H0 w' S μ H where rel:=h.rel.turn a λg c=>d g (.inr c);ext:={os:=f.trans h.ext.os,tape:=i.trans h.ext.tape,output:=j.trans h.ext.output,size:=Nat.le_trans h.ext.size a,keep:=λg c e=>(d g (.inl c)).trans (h.ext.keep g c e),more:=h.ext.more,new:=h.ext.new,own:=h.ext.own}
theorem RelV.turn{v:AV}{u:Value}(h:RelV ν w S μ H v u)(c:∀g,S g\/alive μ H g->w'.heap[g]?=w.heap[g]?):RelV ν w' S μ H v u:=h.keep (λ_ h=>h) (λg a=>c g (.inl a)) .refl
theorem GlRel.turn{Γ:Ctx}{N:Names}(h:GlRel Γ N w S)(d:∀g,S g\/alive μ H g->w'.heap[g]?=w.heap[g]?):GlRel Γ N w' S:=by
 refine⟨λn cs a=>(h.rel n cs a).keep (λ_ h=>h) (λg f=>d g (.inl f)),λn cs a=>?_,λn a=>?_⟩
 ·let⟨us,e,l,k,o⟩:=h.whole n cs a;have p:S (N.gl n):=by have :=h.rel n cs a;cases this with|ptr _ _ _ _ b=>grind
  grind
 ·let⟨b,m,j⟩:=h.ints n a;exact⟨b,m,(gM (d _ (.inl b))).trans j⟩
theorem GlRel.run{Γ:Ctx}{N:Names}(h:GlRel Γ N w S)(j:Rel N.fn w S μ H)(c:Run N.fn w S μ H w' S' μ' H'):GlRel Γ N w' S':=by
 have keep:=λg f=>c.ext.keep g (j.lt g f) λp=>j.apart g p f;refine⟨λn cs b=>(h.rel n cs b).keep c.ext.more keep,λn cs b=>?_,λn b=>?_⟩
 ·let⟨us,e,s,r,t⟩:=h.whole n cs b;have d:S (N.gl n):=by have :=h.rel n cs b;cases this with|ptr _ _ _ _ c=>grind
  grind
 ·let⟨d,m,q⟩:=h.ints n b;exact⟨c.ext.more _ d,m,(gM (keep _ d)).trans q⟩
structure Far(Γ:Ctx)(N:Names)(w0:World)(S0:Nat->Prop)(μ0:Nat->Value)(H0:Heap)(bs:List Nat)(id g:Nat)(w:World)(S:Nat->Prop)(μ:Nat->Value)(H:Heap):Prop where
 run:Run N.fn w0 S0 μ0 H0 w S μ H
 mv:Moves μ0 H0 μ H
 gl:GlRel Γ N w S
 bx:RelV N.fn w S μ H (.bx id 0) (.pointer (some ⟨g,0,none⟩))un:∀b∈bs,w0.heap.size<=b/\Un w S μ H b
variable{Γ:Ctx}{N:Names}{bs:List Nat}{id g:Nat}
theorem Far.turn(h:Far Γ N w0 S0 μ0 H0 bs id g w S μ H)(f:w.heap.size<=w'.heap.size)(m:∀x,x∉bs->x<w.heap.size->w'.heap[x]?=w.heap[x]?)(q:w'.os=w.os)(p:w'.tape=w.tape)(o:w'.output=w.output):Far Γ N w0 S0 μ0 H0 bs id g w' S μ H:=by
 have e:∀x,S x\/alive μ H x->w'.heap[x]?=w.heap[x]?:=λx a=>m x (λj=>by let⟨_,_,t,s⟩:=h.un x j;grind) (by
   rcases a with a|a;·exact h.run.rel.lt x a
   ·let⟨i,c,k1,_,r⟩:=alive_iff.1 a;exact h.run.rel.blk_lt k1 r);refine⟨h.run.turn f (λx a=>?_) q p o,h.mv,h.gl.turn e,h.bx.turn e,λb k=>⟨(h.un b k).1,(h.un b k).2.size f⟩⟩;rcases a with a|a;·refine m x (λj=>?_) (Nat.lt_of_lt_of_le a h.run.ext.size);have :=(h.un x j).1;omega
 grind
theorem Far.call(h:Far Γ N w0 S0 μ0 H0 bs id g w S μ H)(a:Run N.fn w S μ H w' S' μ' H')(f:Moves μ H μ' H'):Far Γ N w0 S0 μ0 H0 bs id g w' S' μ' H'/\∀b∈bs,w'.heap[b]?=w.heap[b]?:=by have d:=λg k=>a.ext.keep g (h.run.rel.lt g k) λn=>h.run.rel.apart g n k;exact⟨⟨h.run.trans a,h.mv.trans f,h.gl.run h.run.rel a,h.bx.keep a.ext.more d f,λb e=>⟨(h.un b e).1,((h.un b e).2.run a).1⟩⟩,λb e=>((h.un b e).2.run a).2⟩
theorem Far.more(h:Far Γ N w0 S0 μ0 H0 bs id g w S μ H)(o:Obj):Far Γ N w0 S0 μ0 H0 (w.heap.size::bs) id g (w.alloc o) S μ H:=by
 have f:=λx a=>(Grows.alloc w o).keep x a;have d:∀x,S x\/alive μ H x->x<w.heap.size:=λx a=>by
  rcases a with a|a;·exact h.run.rel.lt x a
  ·let⟨i,c,k1,_,k⟩:=alive_iff.1 a;exact h.run.rel.blk_lt k1 k
 refine⟨h.run.turn (Grows.alloc w o).size (λx a=>f x ?_) rfl rfl rfl,h.mv,h.gl.turn λx a=>f x (d x a),h.bx.turn λx a=>f x (d x a),λb e=>?_⟩
 ·rcases a with a|a;·exact Nat.lt_of_lt_of_le a h.run.ext.size
  grind
 ·rcases List.mem_cons.1 e with rfl|e;·exact⟨h.run.ext.size,.fresh h.run.rel o⟩
  ·exact⟨(h.un b e).1,(h.un b e).2.size (Grows.alloc w o).size⟩
end
theorem one_box{ν:Nat->Nat}{w:World}{B:Nat}{u:Value}{t:TypeId}{v:PV}(e:w.heap[B]?=some (.cells #[u] t (0,0)))(l:v.one=true)(f:RelP ν w (λ_=>False) v u):Rel ν w (λ_=>False) (λ_=>.pointer (some ⟨B,0,none⟩)) [.box [.p v]]where
 lt _ h:=h.elim;blk k b h:=by cases k with|succ n=>grind|zero=>
   simp[]at h;subst h;refine⟨B,rfl,.inl ⟨_,t,e,rfl,λc d=>?_,λj c d=>?_⟩⟩;·simp[]at d;subst d;exact l
   ·cases j with|zero=>simp[]at d;subst d;exact .p _ _ f|succ j=>grind
 apart _ _ h:=h;inj i j g _ _ hi m:=by grind
theorem IG{ν:Nat->Nat}{w:World}{S:Nat->Prop}{μ:Nat->Value}{v:PV}(f:Rel ν w S μ [.box [.p v]]):∃B a t,μ 0=.pointer (some ⟨B,0,none⟩)/\w.heap[B]?=some (.cells a t (0,0))/\a.size=1/\RelV ν w S μ [.box [.p v]] (.p v) (a.getD 0 undef):=by
 obtain⟨g,h,⟨cs,t,b,l,j,d⟩|⟨s,e,b,_⟩|⟨i,a,c,b,_⟩⟩:=f.blk 0 _ rfl;·exact⟨g,cs,t,h,b,by grind,d 0 _ rfl⟩
 ·simp[bX]at b
 ·simp[ak]at b
def xZ(r:List UInt8)(i:Int):List UInt8:=if 0<=i then r.take (i.toNat+1)else r
def qu(r:List UInt8)(i:Int):List UInt8:=if 0<=i then r.drop (i.toNat+1)else[]
def pΓ:Ctx:=⟨λ_=>none,λ_=>none,[]⟩
def pN:Names:=⟨λ_=>0,λ_=>0⟩
def pCal:Nat->List AV->Heap->Option (List AV×Heap):=λ_ _ _=>none
theorem pCal_ok{P:Program}:iL pΓ pN P pCal:=λ_ _ _ _ _ h=>by cases h
def cutL:List St:=[⟨some 12,none,.inl (.load 1 false (.v 1))⟩,⟨some 13,none,.inl (.mov (.v 4))⟩,⟨some 14,none,.inl (.bin .add (.v 13) (.c (.int .i64 1)))⟩,⟨some 15,none,.inl (.sliceS (.v 12) none (some (.v 14)))⟩,⟨some 16,none,.inl (.load 1 false (.v 1))⟩,⟨some 17,none,.inl (.mov (.v 4))⟩,⟨some 18,none,.inl (.bin .add (.v 17) (.c (.int .i64 1)))⟩,⟨some 19,none,.inl (.sliceS (.v 16) (some (.v 18)) none)⟩,⟨some 3,none,.inl (.mov (.v 15))⟩,⟨none,none,.inr (.store 1 (.v 1) (.v 19))⟩]
section


variable{Γ:Ctx}{cal:Nat->List AV->Heap->Option (List AV×Heap)}{dst:Option Nat}{r:List St}{env:Env}{H:Heap}
theorem Cm{q:QOp}{v:AV}(h:evQ Γ cal (look env) H q=some v):iA Γ cal (⟨dst,none,.inl q⟩::r) env H=iA Γ cal r (put env dst v) H:=by simp[iA,wanted,h]
theorem sts_x{q:XOp}{v:AV}{H':Heap}(h:evX Γ cal (look env) H q=some (v,H')):iA Γ cal (⟨dst,none,.inr q⟩::r) env H=iA Γ cal r (put env dst v) H':=by simp[iA,wanted,h]
end
theorem cut_run(r:List UInt8)(i:Int)(h0:0<=i)(hi:i<r.length)(hr:r.length<=1000000000):∃env,iA pΓ pCal cutL [(1,.bx 0 0),(4,.p (.int .i64 i))] [.box [.p (.str r)]]=some (env,[.box [.p (.str (r.drop (i.toNat+1)))]])/\look env 3=.p (.str (r.take (i.toNat+1))):=by
 have hw:IntKind.i64.wrap (i+1)=i+1:=wrap_i64 (by omega) (by omega);have hb1:(bound r.length r.length (some (.p (.int .i64 (i+1)))))=some (i.toNat+1):=by simp only[bound];rw[if_pos ⟨by omega,by omega⟩];congr 1;omega
 have hb2:(bound r.length 0 (some (.p (.int .i64 (i+1)))))=some (i.toNat+1):=by simp only[bound];rw[if_pos ⟨by omega,by omega⟩];congr 1;omega
 have s1:jb (.p (.str r)) none (some (.p (.int .i64 (i+1))))=some (.p (.str (r.take (i.toNat+1)))):=by have e:bound (i.toNat+1) 0 none=some 0:=rfl;simp only[jb,hb1,Option.bind_some,e,Option.map_some,List.drop_zero]
 have s2:jb (.p (.str r)) (some (.p (.int .i64 (i+1)))) none=some (.p (.str (r.drop (i.toNat+1)))):=by have e:bound r.length r.length none=some r.length:=rfl;simp only[jb,e,Option.bind_some,hb2,Option.map_some,List.take_length]
 have ad:cb .add (.p (.int .i64 i)) (.p (.int .i64 1))=some (.p (.int .i64 (i+1))):=by show some (AV.p (.int .i64 (IntKind.i64.wrap (i+1))))=_;rw[hw]
 have run:iA pΓ pCal cutL [(1,.bx 0 0),(4,.p (.int .i64 i))] [.box [.p (.str r)]]=some ((3,.p (.str (r.take (i.toNat+1))))::(19,.p (.str (r.drop (i.toNat+1))))::(18,.p (.int .i64 (i+1)))::(17,.p (.int .i64 i))::(16,.p (.str r))::(15,.p (.str (r.take (i.toNat+1))))::(14,.p (.int .i64 (i+1)))::(13,.p (.int .i64 i))::(12,.p (.str r))::[(1,.bx 0 0),(4,.p (.int .i64 i))],[.box [.p (.str (r.drop (i.toNat+1)))]]):=by refine(Cm (v:=.p (.str r)) rfl).trans ?_;refine(Cm (v:=.p (.int .i64 i)) rfl).trans ?_;refine(Cm (v:=.p (.int .i64 (i+1))) (by exact ad)).trans ?_;refine(Cm (v:=.p (.str (r.take (i.toNat+1)))) (by exact s1)).trans ?_;refine(Cm (v:=.p (.str r)) rfl).trans ?_;refine(Cm (v:=.p (.int .i64 i)) rfl).trans ?_;refine(Cm (v:=.p (.int .i64 (i+1))) (by exact ad)).trans ?_;refine(Cm (v:=.p (.str (r.drop (i.toNat+1)))) (by exact s2)).trans ?_;refine(Cm (v:=.p (.str (r.take (i.toNat+1)))) rfl).trans ?_;refine(sts_x (v:=.nov) (H':=[.box [.p (.str (r.drop (i.toNat+1)))]]) rfl).trans ?_;rfl
 exact⟨_,run,rfl⟩
theorem list25{l:List Value}(h:l.length=25):∃a0 z u A t w x v s y j d b g c e m p k n q i f a o,l=[a0,z,u,A,t,w,x,v,s,y,j,d,b,g,c,e,m,p,k,n,q,i,f,a,o]:=by match l,h with|[a0,z,u,A,t,w,x,v,s,y,j,d,b,g,c,e,m,p,k,n,q,i,f,a,o],_=>grind
def Ix(w:World)(B:Nat):Nat:=match w.cell? ⟨B,0,none⟩with|some (.string b)=>b.size|_=>0
theorem pC{w:World}{B:Nat}{r:List UInt8}{t:TypeId}(h:w.heap[B]?=some (.cells #[.string ⟨r.toArray⟩] t (0,0))):Ix w B=r.length:=by
 have a:w.cell? ⟨B,0,none⟩=some (.string ⟨r.toArray⟩):=by simp[World.cell?,h]
 simp[Ix,a,ByteArray.size]
theorem DB{r:List UInt8}{i:Int}(h:r≠[]):(qu r i).length<r.length:=by have :=List.length_pos_iff.2 h;unfold qu;grind
theorem Od{P:Program}{f:Nat}{us:Array Value}{w:World}{R:Value->World->Prop}(b:Enters P f)(h:Does P f us w R):Calls P f us w λe a=>∃v,e=.returned v/\R v a:=by
 rcases h with⟨_,h⟩|⟨v,a,h,_⟩;·grind
 ·rw[b us w]at h;grind
theorem Dc{Γ:Ctx}{N:Names}{P:Program}{cal:rm}(c:iL Γ N P cal){w0 w:World}{S0 S:Nat->Prop}{μ0 μ:Nat->Value}{H0 H i:Heap}{l:List Nat}{n g:Nat}(h:Far Γ N w0 S0 μ0 H0 l n g w S μ H){f:Nat}(q:Enters P (N.fn f))(k:aw Γ f=true){args rs:List AV}{us:List Value}(p:cal f args H=some (rs,i))(r:All2 (λu x=>RelV N.fn w S μ H x u) us args):Calls P (N.fn f) us.toArray w λe d=>∃j m a,e=.returned (iK j)/\All2 (λu x=>RelV N.fn d m a i x u) j rs/\Far Γ N w0 S0 μ0 H0 l n g d m a i/\∀b∈l,d.heap[b]?=w.heap[b]?:=by refine(Od q (c f args H rs i p w S μ us h.run.rel h.gl r)).mono ?_;rintro e d⟨v,rfl,j,m,a,rfl,s,o,z⟩;let⟨y,t⟩:=h.call s (o (Kn k));grind
theorem dW{w:World}{o:Obj}{k:Nat}(h:k<w.heap.size):(w.alloc o).heap[k]?=w.heap[k]?:=(Grows.alloc w o).keep k h
theorem alloc_at{w:World}{o:Obj}{k:Nat}(h:k=w.heap.size):(w.alloc o).heap[k]?=some o:=by subst h;exact Go.heap_alloc_new w o
def Asd(p:Prop):Prop:=p
theorem Asd.out{p:Prop}(h:Asd p):p:=h
end Ab
