import Derived.Test.YtbehhmffelnmfaaGreatDoorAbP1
import Derived.Test.YtbehhmffelnmfaaGreatDoorDec
import Derived.Test.YtbehhmffelnmfaaGreatDoorAbB3
import Derived.RangeFuncNested
import Derived.RangeFuncLeaves
import Derived.Shelf.RegionOpen
import Derived.LoopIn
import Derived.Sort.AtCallIn
import Derived.Deep.DeepHandedRow
import Derived.KernelRfl
import Derived.Test.YtbehhmffelnmfaaGreatDoorProg
set_option linter.all false
namespace Go.Proofs
theorem Np{F:Fence}{n:Nat}{P:Program}{g:Operand}{ps:Array Tmp}{assign body:Code}{Q:Exit->Act->World->Prop}{a:Act}{w:World}(hro:F.round=none)(h1:1<=n){gf:Nat}{lb:Array Value}(hg:a.eval g=.func (.func gf) #[] lb)(hFg:F.fn gf)(eg:∀args w,(callFunc gf args).run P w=.ok (.enter gf args) w)(h:∀(fn:FuncId)(rec:LoopState->Option Code->Loop),F.fn fn->rec=(λst pe=>{state:=st,pending:=pe,fn,tmps:=a.tmps,params:=ps,assign,body,defers:=w.heap.size})->CallsIn F (n-1) P gf (#[.func (.yield (w.heap.size+1)) #[] #[]]++lb) ((w.alloc (.deferred (some []))).alloc (.loop (rec .ready none))) (rangePost F n P (w.heap.size+1) Q {a with defers:={target:=.collected w.heap.size,args:=#[]}::a.defers})):(Code.rangeFunc g ps assign body).wpIn F n P Q a w:=by
 refine wpIn_rangeFunc ?_;intro fn hfn;rw[hro];obtain⟨rec,hrec⟩:∃rec:LoopState->Option Code->Loop,rec=λst pe=>{state:=st,pending:=pe,fn,tmps:=a.tmps,params:=ps,assign,body,defers:=w.heap.size}:=⟨_,rfl⟩;have h:=h fn rec hfn hrec;refine⟨w.heap.size+1,[{target:=.collected w.heap.size,args:=#[]}],(w.alloc (.deferred (some []))).alloc (.loop (rec .ready none)),{target:=.fn (.func gf) lb,args:=#[.func (.yield (w.heap.size+1)) #[] #[]]},(w.alloc (.deferred (some []))).alloc (.loop (rec .ready none)),gf,#[.func (.yield (w.heap.size+1)) #[] #[]]++lb,(w.alloc (.deferred (some []))).alloc (.loop (rec .ready none)),?_,?_,?_,?_,λ_=>h1,?_⟩;·rw[hrec];exact run_enterLoop_outer _ _ _ _ _
 ·simp only[resolve,hg];simp[go_sem]
 ·intro f' hf';simp[Target.leads]at hf';subst hf';exact hFg
 ·simp[invoke,go_sem,eg]
 ·exact h
open Go.RowKit Ab
theorem Tryz.lines_in(F:Fence)(n:Nat)(h:F.fn 102)(hro:F.round=none)(s:ByteArray)(w:World):CallsIn F n Tryz.prog 102 #[.string s] w λe w'=>e=.returned (.func (.func 167) #[] #[.pointer (some ⟨w.heap.size,0,none⟩)])/\w'=w.alloc (.cells #[.string s] 9):=by refine callsIn_of_wp Tryz.func102 rfl h ?_ hro;simp only[Tryz.ntmps102,List.size_toArray,List.length_cons,List.length_nil,Nat.reduceAdd,Nat.reduceSub,Array.replicate_succ,Array.replicate_zero,List.push_toArray,List.append_toArray,List.nil_append,List.cons_append];gi_wp2;go_ret;exact⟨rfl,rfl⟩
set_option maxRecDepth 100000 in
set_option maxHeartbeats 2000000 in
theorem Tryz.lines1_in(n:Nat)(hn:2<=n)(l B:Nat)(J:List UInt8->World->Prop)(Jx:World->Prop)(hcell:∀r W,J r W->(∃t,W.heap[B]?=some (.cells #[.string ⟨r.toArray⟩] t (0,0)))/\r.length<=1000000000)(hstep:∀r W,r≠[]->J r W->∃i:Int,¬(0<=i/\r.length<=i.toNat)/\CallsIn Fence.wide (n-1) Tryz.prog 122 #[.string ⟨r.toArray⟩,.int .u8 10] W λe W1=>e=.returned (.int .i64 i)/\W1.heap[B]?=W.heap[B]?/\∀W':World,W1.heap.size<=W'.heap.size->(∀x,x≠B->x<W1.heap.size->W'.heap[x]?=W1.heap[x]?)->W'.os=W1.os->W'.tape=W1.tape->W'.output=W1.output->(∃t,W'.heap[B]?=some (.cells #[.string ⟨(qu r i).toArray⟩] t (0,0)))->YieldAt Fence.wide (n-1) Tryz.prog l #[.string ⟨(xZ r i).toArray⟩] W' λe W2=>(e=.returned (.bool true)/\J (qu r i) W2)\/(e=.returned (.bool false)/\Jx W2))(s:List UInt8)(W:World)(hJ:J s W):CallsIn Fence.wide n Tryz.prog 167 #[.func (.yield l) #[] #[],.pointer (some ⟨B,0,none⟩)] W λe W'=>(∃v,e=.returned v)/\(J [] W'\/Jx W'):=by
 refine callsIn_of_wp Tryz.func167 rfl trivial ?_ rfl;simp only[Tryz.ntmps167,List.size_toArray,List.length_cons,List.length_nil,Nat.reduceAdd,Nat.reduceSub,Array.replicate_succ,Array.replicate_zero,List.push_toArray,List.append_toArray,List.nil_append,List.cons_append];gi_wp2;have hn1:1<=n:=by omega
 have mixed:Tryz.prog.follows .mixedOrders=true:=by kernel_rfl
 have hf122:Fence.wide.fn 122:=trivial;have e122:∀args w,(callFunc 122 args).run Tryz.prog w=.ok (.enter 122 args) w:=enters_of Tryz.func122 (by kernel_rfl) rfl;gi_loopw[3](λ_ wr=>∃r,J r wr)(λ_ wr=>Ix wr B);case atStart=>exact⟨s,hJ⟩
 case round=>
  obtain⟨r,hr⟩:=hrel;obtain⟨⟨tB,hB⟩,hrl⟩:=hcell r wr hr;have hc:wr.cell? ⟨B,0,none⟩=some (.string ⟨r.toArray⟩):=by simp[World.cell?,hB]
  have hsz:(⟨r.toArray⟩:ByteArray).size=r.length:=by simp[ByteArray.size]
  by_cases hne:r=[];·subst hne;gi_wp2;go_end0;exact⟨⟨_,rfl⟩,.inl hr⟩
  ·obtain⟨i,hi,hcall⟩:=hstep r wr hne hr;have hpos:0<r.length:=List.length_pos_iff.2 hne;have hcell1:∀W1:World,W1.heap[B]?=wr.heap[B]?->W1.cell? ⟨B,0,none⟩=some (.string ⟨r.toArray⟩)/\W1.frozen? ⟨B,0,none⟩=false:=λW1 e=>by simp[World.cell?,World.frozen?,e,hB]
   by_cases h0:0<=i
   ·have hd:decide (0<=i)=true:=decide_eq_true h0;have hlt:i<r.length:=by omega
    gi_wp2_with(gi_at_call 122;refine hcall.mono ?_;rintro e W1⟨rfl,hB1,hrest⟩);have hB2:W1.heap[B]?=some (.cells #[.string ⟨r.toArray⟩] tB (0,0)):=hB1.trans hB;obtain⟨env',hev,hl3⟩:=cut_run r i h0 hlt hrl;refine wpIn_wide.2 (Gl (Γ:=pΓ) (N:=pN) (nt:=25) mixed pCal_ok (l:=cutL) (by kernel_rfl) (by kernel_rfl) hev (S:=λ_=>False) (μ:=λ_=>.pointer (some ⟨B,0,none⟩)) (one_box hB2 rfl (.str r)) ⟨λt=>?env,⟨(λ_ _ h=>by cases h),(λ_ _ h=>by cases h),(λ_ h=>by cases h)⟩⟩ (by simp) ?_);case env=>
     by_cases h1:t=1;·subst h1;exact .bx 0 0 B _ (by simp) (λ_ _=>rfl) rfl
     ·by_cases h4:t=4;·subst h4;exact .p _ _ (.int _ _)
      ·have e:Ab.look [(1,.bx 0 0),(4,.p (.int .i64 i))] t=.any:=by simp[Ab.look,Ne.symm h1,Ne.symm h4]
       rw[e];exact .any _
    intro a' W' S' μ' hst he hsz' hdf hoth;have l0:=hoth 0 (by decide);have l1:=hoth 1 (by decide);have l2:=hoth 2 (by decide);have l3:=he.env 3;rw[hl3]at l3;have l3':=l3.str_inv;clear l3 he;have hkeep:∀x,x≠B->x<W1.heap.size->W'.heap[x]?=W1.heap[x]?:=λx hx hlt'=>hst.ext.keep x hlt' λha=>by obtain⟨id,k1,k2⟩:=ha;simp only[aO,Option.some.injEq]at k1;exact hx k1.symm
    have hBn:∃t,W'.heap[B]?=some (.cells #[.string ⟨(qu r i).toArray⟩] t (0,0)):=by
     obtain⟨B',arr,tt,k1,k2,k3,k4⟩:=IG hst.rel;have k5:=(hst.moves.box 0 _ (by simp) rfl).choose_spec.2;rw[k1]at k5;cases k5;refine⟨tt,k2.trans ?_⟩;have k6:=k4.str_inv;rw[show qu r i=r.drop (i.toNat+1)from if_pos h0];congr 2;apply Array.ext (by simpa using k3);intro j hj1 hj2;have :j=0:=by simp at hj2;omega
     subst this;simpa[Array.getD,hj1]using k6
    obtain⟨fn,tmps,assign,body,hy,hR⟩:=hrest W' hst.ext.size hkeep hst.ext.os hst.ext.tape hst.ext.output hBn;rw[show xZ r i=r.take (i.toNat+1)from if_pos h0]at hy;obtain⟨tm,df⟩:=a';obtain⟨lst⟩:=tm;simp only[List.size_toArray]at hsz';simp only at hdf;subst hdf;obtain⟨a0,a1,a2,a3,a4,a5,a6,a7,a8,a9,a10,a11,a12,a13,a14,a15,a16,a17,a18,a19,a20,a21,a22,a23,a24,rfl⟩:=list25 hsz';simp at l0 l1 l2 l3';subst l0 l1 l2 l3';gi_wp2;refine hR.mono ?_;rintro e W3(⟨rfl,hJ3⟩|⟨rfl,hJx3⟩)
    ·gi_wp2;go_roundw;case rel=>exact⟨_,hJ3⟩
     case measure=>obtain⟨⟨tB3,hB3⟩,hrl3⟩:=hcell _ _ hJ3;rw[pC hB3,pC hB];exact DB hne
    ·gi_wp2;refine bodyPost_ret (results_none rfl _ _ _) rfl ?_;exact⟨⟨_,rfl⟩,.inr hJx3⟩
   ·have hd:decide (0<=i)=false:=decide_eq_false h0;gi_wp2_with(gi_at_call 122;refine hcall.mono ?_;rintro e W1⟨rfl,hB1,hrest⟩;obtain⟨hc1,hf1⟩:=hcell1 W1 hB1;obtain⟨fn,tmps,assign,body,hy,hR⟩:=hrest (W1.setCell ⟨B,0,none⟩ (.string ⟨#[]⟩)) (KeepsWalks.setCell _ _ _).size (λx hx _=>Below.heap_setCell _ _ _ x hx) rfl rfl rfl ⟨tB,by rw[show qu r i=[]from if_neg h0];exact Boxed.set (.string ⟨#[]⟩) (hB1.trans hB)⟩;rw[show xZ r i=r from if_neg h0]at hy);refine hR.mono ?_;rintro e W3(⟨rfl,hJ3⟩|⟨rfl,hJx3⟩)
    ·gi_wp2;go_roundw;case rel=>exact⟨_,hJ3⟩
     case measure=>obtain⟨⟨tB3,hB3⟩,hrl3⟩:=hcell _ _ hJ3;rw[pC hB3,pC hB];exact DB hne
    ·gi_wp2;refine bodyPost_ret (results_none rfl _ _ _) rfl ?_;exact⟨⟨_,rfl⟩,.inr hJx3⟩
attribute[local go_sem]Oper.semAt_some
section


variable{Γ:Ctx}{N:Names}
set_option maxRecDepth 100000 in
set_option maxHeartbeats 4000000 in
theorem Tryz.parse_ok {f ix tr ln s1 s2 : Nat} (hf : N.fn f = 49) (hix : N.fn ix = 122) (htr : N.fn tr = 103) (hln : N.fn ln = 104) (k1 : aw Γ ix = true) (k2 : aw Γ tr = true) (k3 : aw Γ ln = true) : HiOk Γ N Tryz.prog f (QO ix tr ln s1 s2) := by
 intro cal hcal args H rs H' hg w S μ us hr hgl ha
 simp only [QO,TL] at hg
 split at hg
 rotate_left
 ·cases hg
 rename_i s
 split at hg
 rotate_left
 ·cases hg
 rename_i hsl
 match us,ha with
 | [u],⟨hu,_⟩ =>
 rw [hu.str_inv,hf]
 refine .inl ⟨Ab.enters_of Tryz.func49 (by kernel_rfl) rfl _ _,(callsIn_wide (n := 8)).1 ?_⟩
 refine callsIn_of_wp_marks Tryz.func49 rfl trivial ?_ rfl
 have hf102 : Fence.wide.fn 102 := trivial
 have e102 : ∀ args w,(callFunc 102 args).run Tryz.prog w = .ok (.enter 102 args) w := enters_of Tryz.func102 (by kernel_rfl) rfl
 simp only [Tryz.ntmps49,List.size_toArray,List.length_cons,List.length_nil,Nat.reduceAdd,Nat.reduceSub,Array.replicate_succ,Array.replicate_zero,List.push_toArray,List.append_toArray,List.nil_append,List.cons_append]
 gi_wp2_with (gi_at_call 102; refine (Tryz.lines_in _ _ trivial rfl _ _).mono ?_; rintro e w' ⟨rfl,rfl⟩)
 obtain ⟨X,hX,hE⟩ := Option.bind_eq_some_iff.1 hg
 -- the blocks that are laid ahead
 have hs1 : Step N.fn w S μ H (w.alloc (.cells #[.pointer none] 78)) S μ H := .grow hr (Ab.Grows.alloc w _) (fun _ h => h) (fun g h => Nat.lt_of_lt_of_le (hr.lt g h) (Ab.Grows.alloc w _).size) (fun _ h => .inl h)
 have hs2 : Step N.fn w S μ H ((w.alloc (.cells #[.pointer none] 78)).alloc (.cells #[.int .i64 0] 33)) S μ H := hs1.trans (.grow hs1.rel (Ab.Grows.alloc _ _) (fun _ h => h) (fun g h => Nat.lt_of_lt_of_le (hs1.rel.lt g h) (Ab.Grows.alloc _ _).size) (fun _ h => .inl h))
 have u1 : Un (w.alloc (.cells #[.pointer none] 78)) S μ H w.heap.size := .fresh hr _
 have u2 : Un ((w.alloc (.cells #[.pointer none] 78)).alloc (.cells #[.int .i64 0] 33)) S μ H (w.alloc (.cells #[.pointer none] 78)).heap.size := .fresh hs1.rel _
 obtain ⟨μ3,hs3,hbx⟩ := CM hs2.rel (cs := [.p (.sl .nil s1 []),.p (.sl .nil s2 [])]) (us := #[.slice none 0 0,.slice none 0 0]) 206 ⟨rfl,by simp [AV.one,PV.one],fun j c hc => by
  match j,hc with
  | 0,hc => simp only [List.getElem?_cons_zero,Option.some.injEq] at hc; subst hc; exact .p _ _ (.sl .nil s1 [] none 0 (fun _ _ => undef) (Nat.le_refl _) (Nat.zero_le _) (by simp) (by simp) (by simp) (by simp) (by simp) (by simp))
  | 1,hc => simp only [List.getElem?_cons_succ,List.getElem?_cons_zero,Option.some.injEq] at hc; subst hc; exact .p _ _ (.sl .nil s2 [] none 0 (fun _ _ => undef) (Nat.le_refl _) (Nat.zero_le _) (by simp) (by simp) (by simp) (by simp) (by simp) (by simp))
  | j + 2,hc => simp at hc⟩
 have hall := hs2.trans hs3
 have g2 : w.heap.size ≤ (w.alloc (.cells #[.pointer none] 78)).heap.size := (Ab.Grows.alloc w _).size
 have far3 : Far Γ N w S μ H [(w.alloc (.cells #[.pointer none] 78)).heap.size,w.heap.size] H.length ((w.alloc (.cells #[.pointer none] 78)).alloc (.cells #[.int .i64 0] 33)).heap.size _ S μ3 (H ++ [.box [.p (.sl .nil s1 []),.p (.sl .nil s2 [])]]) :=
  ⟨hall.run,hall.moves,GlRel.step hr hall hgl,hbx,fun b hb => by
   simp only [List.mem_cons,List.not_mem_nil,or_false] at hb
   rcases hb with rfl | rfl
   ·exact ⟨g2,(u2.run hs3.run).1⟩
   ·exact ⟨Nat.le_refl _,((u1.size (Ab.Grows.alloc _ _).size).run hs3.run).1⟩⟩
 have far5 := (far3.more (.cells #[.pointer (some ⟨((w.alloc (.cells #[.pointer none] 78)).alloc (.cells #[.int .i64 0] 33)).heap.size,0,none⟩)] 78)).more (.cells #[.string ⟨s.toArray⟩] 9)
 simp only [World.size_alloc] at far5
 obtain ⟨W5,hW5⟩ : ∃ W5,(((((w.alloc (Obj.cells #[Value.pointer none] 78)).alloc (Obj.cells #[Value.int IntKind.i64 0] 33)).alloc (Obj.cells #[Value.slice none 0 0,Value.slice none 0 0] 206)).alloc (Obj.cells #[Value.pointer (some ⟨w.heap.size + 1 + 1,0,none⟩)] 78)).alloc (Obj.cells #[Value.string ⟨s.toArray⟩] 9)) = W5 := ⟨_,rfl⟩
 have hsz5 : W5.heap.size = w.heap.size + 1 + 1 + 1 + 1 + 1 := by rw [← hW5]; simp only [World.size_alloc]
 have c2 : W5.heap[w.heap.size]? = some (.cells #[.pointer none] 78 (0,0)) := by rw [← hW5,dW (by simp only [World.size_alloc]; omega),dW (by simp only [World.size_alloc]; omega),dW (by simp only [World.size_alloc]; omega),dW (by simp only [World.size_alloc]; omega),alloc_at (by simp only [World.size_alloc])]
 have c3 : W5.heap[w.heap.size + 1]? = some (.cells #[.int .i64 0] 33 (0,0)) := by rw [← hW5,dW (by simp only [World.size_alloc]; omega),dW (by simp only [World.size_alloc]; omega),dW (by simp only [World.size_alloc]; omega),alloc_at (by simp only [World.size_alloc])]
 have c4 : W5.heap[w.heap.size + 1 + 1 + 1]? = some (.cells #[.pointer (some ⟨w.heap.size + 1 + 1,0,none⟩)] 78 (0,0)) := by rw [← hW5,dW (by simp only [World.size_alloc]; omega),alloc_at (by simp only [World.size_alloc])]
 have cB : W5.heap[w.heap.size + 1 + 1 + 1 + 1]? = some (.cells #[.string ⟨s.toArray⟩] 9 (0,0)) := by rw [← hW5,alloc_at (by simp only [World.size_alloc])]
 rw [hW5] at far5 ⊢
 generalize hx2 : w.heap.size = x2 at far5 c2 c3 c4 cB hsz5 ⊢
 have hwS : w.heap.size = x2 := hx2
 have e167 : ∀ args w,(callFunc 167 args).run Tryz.prog w = .ok (.enter 167 args) w := enters_of Tryz.func167 (by kernel_rfl) rfl
 refine Np rfl (by omega) (gf := 167) (lb := #[.pointer (some ⟨x2 + 1 + 1 + 1 + 1,0,none⟩)]) rfl trivial e167 ?_
 intro fn rec _ hrec
 have far7 := (far5.more (.deferred (some []))).more (.loop (rec .ready none))
 have c2 := (dW (o := .loop (rec .ready none)) (k := x2) (w := W5.alloc (.deferred (some []))) (by simp only [World.size_alloc]; omega)).trans ((dW (by omega)).trans c2)
 have c3 := (dW (o := .loop (rec .ready none)) (k := x2 + 1) (w := W5.alloc (.deferred (some []))) (by simp only [World.size_alloc]; omega)).trans ((dW (by omega)).trans c3)
 have c4 := (dW (o := .loop (rec .ready none)) (k := x2 + 1 + 1 + 1) (w := W5.alloc (.deferred (some []))) (by simp only [World.size_alloc]; omega)).trans ((dW (by omega)).trans c4)
 have cB := (dW (o := .loop (rec .ready none)) (k := x2 + 1 + 1 + 1 + 1) (w := W5.alloc (.deferred (some []))) (by simp only [World.size_alloc]; omega)).trans ((dW (by omega)).trans cB)
 have cD : ((W5.alloc (.deferred (some []))).alloc (.loop (rec .ready none))).heap[W5.heap.size]? = some (.deferred (some [])) := (dW (by simp only [World.size_alloc]; omega)).trans (alloc_at rfl)
 have cL : ((W5.alloc (.deferred (some []))).alloc (.loop (rec .ready none))).heap[W5.heap.size + 1]? = some (.loop (rec .ready none)) := alloc_at (by simp only [World.size_alloc])
 simp only [World.size_alloc,hsz5] at far7 cD cL ⊢
 generalize (W5.alloc (.deferred (some []))).alloc (.loop (rec .ready none)) = W7 at far7 c2 c3 c4 cB cD cL ⊢
 clear far5 hsz5 hW5
 -- what holds between two rounds; what holds where a round has left
 obtain ⟨J,hJ⟩ : ∃ J : List UInt8 → World → Prop,J = fun r W => ∃ S' μ' H' m,Far Γ N w S μ H [x2 + 1 + 1 + 1 + 1 + 1 + 1,x2 + 1 + 1 + 1 + 1 + 1,x2 + 1 + 1 + 1 + 1,x2 + 1 + 1 + 1,x2 + 1,x2] H.length (x2 + 1 + 1) W S' μ' H' ∧
  W.heap[x2]? = some (.cells #[.pointer none] 78 (0,0)) ∧ W.heap[x2 + 1]? = some (.cells #[.int .i64 0] 33 (0,0)) ∧ W.heap[x2 + 1 + 1 + 1]? = some (.cells #[.pointer (some ⟨x2 + 1 + 1,0,none⟩)] 78 (0,0)) ∧
  (∃ t,W.heap[x2 + 1 + 1 + 1 + 1]? = some (.cells #[.string ⟨r.toArray⟩] t (0,0))) ∧ W.heap[x2 + 1 + 1 + 1 + 1 + 1]? = some (.deferred (some [])) ∧ W.heap[x2 + 1 + 1 + 1 + 1 + 1 + 1]? = some (.loop (rec .ready none)) ∧
  r.length ≤ 1000000000 ∧ r.length < m ∧ oW ix tr ln cal H.length m r H' = some X := ⟨_,rfl⟩
 obtain ⟨Jx,hJx⟩ : ∃ Jx : World → Prop,Jx = fun W => ∃ S' μ' H' e,Far Γ N w S μ H [x2 + 1 + 1 + 1 + 1 + 1 + 1,x2 + 1 + 1 + 1 + 1 + 1,x2 + 1 + 1 + 1 + 1,x2 + 1 + 1 + 1,x2 + 1,x2] H.length (x2 + 1 + 1) W S' μ' H' ∧
  W.heap[x2]? = some (.cells #[.pointer none] 78 (0,0)) ∧ W.heap[x2 + 1]? = some (.cells #[.int .i64 e] 33 (0,0)) ∧ W.heap[x2 + 1 + 1 + 1 + 1 + 1]? = some (.deferred (some [])) ∧
  W.heap[x2 + 1 + 1 + 1 + 1 + 1 + 1]? = some (.loop (rec .done (some .ret))) ∧ e ≠ 0 ∧ X = (e,H') := ⟨_,rfl⟩
 have hJ7 : J s W7 := by rw [hJ]; exact ⟨_,_,_,_,far7,c2,c3,c4,⟨_,cB⟩,cD,cL,hsl,Nat.lt_succ_self _,hX⟩
 have aJ : Asd (J = _) := hJ
 have aJx : Asd (Jx = _) := hJx
 have arec : Asd (rec = _) := hrec
 clear hJ hJx hrec
 have eJ : J = _ := aJ
 refine (Tryz.lines1_in (8 - 1) (by omega) _ (x2 + 1 + 1 + 1 + 1) J Jx (fun r W h => by rw [eJ] at h; obtain ⟨_,_,_,_,_,_,_,_,h1,_,_,h2,_⟩ := h; exact ⟨h1,h2⟩) ?step s W7 hJ7).mono ?fin
 case step =>
  intro r W hne hJr
  rw [eJ] at hJr
  clear eJ
  obtain ⟨S',μ',H1',m,far,q2,q3,q4,⟨tB,qB⟩,qD,qL,hrl,hrm,hp⟩ := hJr
  cases m with
  | zero => cases hp
  | succ m =>
  cases r with
  | nil => exact absurd rfl hne
  | cons c r0 =>
  simp only [oW] at hp
  split at hp
  rotate_left
  ·cases hp
  rename_i i H2 hcix
  split at hp
  ·cases hp
  rename_i hi
  split at hp
  rotate_left
  ·cases hp
  rename_i tt H3 hctr
  replace hctr : cal tr [.p (.str (xZ (c :: r0) i)),.p (.str [10])] H2 = some ([.p (.str tt)],H3) := hctr
  refine ⟨i,hi,?_⟩
  have hcall := Dc hcal far (f := ix) (by rw [hix]; exact Ab.enters_of Tryz.func122 (by kernel_rfl) rfl) k1 hcix (us := [.string ⟨(c :: r0).toArray⟩,.int .u8 10]) ⟨.p _ _ (.str _),.p _ _ (.int _ _),trivial⟩
  rw [hix] at hcall
  refine (callsIn_wide.2 hcall).mono ?_
  rintro e W1 ⟨vs,S1,μ1,rfl,hvs,far1,hb1⟩
  match vs,hvs with
  | [v],⟨hv,_⟩ =>
  refine ⟨by rw [hv.p_inv.int_inv]; rfl,hb1 _ (by simp),?_⟩
  rintro W2 hsz2 hk2 ho1 ho2 ho3 ⟨tB2,hB2⟩
  have far2 := far1.turn hsz2 (fun x hx hlt => hk2 x (fun e => hx (by simp [e])) hlt) ho1 ho2 ho3
  have keep : ∀ b ∈ [x2 + 1 + 1 + 1 + 1 + 1 + 1,x2 + 1 + 1 + 1 + 1 + 1,x2 + 1 + 1 + 1 + 1,x2 + 1 + 1 + 1,x2 + 1,x2],b ≠ x2 + 1 + 1 + 1 + 1 → W2.heap[b]? = W.heap[b]? := fun b hb hn => (hk2 b hn (far1.un b hb).2.1).trans (hb1 b hb)
  have q2 := (keep x2 (by simp) (by omega)).trans q2
  have q3 := (keep (x2 + 1) (by simp) (by omega)).trans q3
  have q4 := (keep (x2 + 1 + 1 + 1) (by simp) (by omega)).trans q4
  have qD := (keep (x2 + 1 + 1 + 1 + 1 + 1) (by simp) (by omega)).trans qD
  have qL := (keep (x2 + 1 + 1 + 1 + 1 + 1 + 1) (by simp) (by omega)).trans qL
  clear keep hk2 hb1 hcall far far1
  have erec : rec = _ := arec
  have hy := run_yield (P := Tryz.prog) (args := #[.string ⟨(xZ (c :: r0) i).toArray⟩]) qL (by rw [erec]; rfl)
  have hbg := run_beginRound (P := Tryz.prog) qL (by rw [erec])
  obtain ⟨rb,hrb⟩ : ∃ rb,({ rec LoopState.ready none with state := .busy } : Loop) = rb := ⟨_,rfl⟩
  rw [hrb] at hbg
  have hend : ∀ (jump : Option Go.Code) (W' : World),W'.heap[x2 + 1 + 1 + 1 + 1 + 1 + 1]? = some (.loop rb) → (Instr.endRound (x2 + 1 + 1 + 1 + 1 + 1 + 1) jump).run Tryz.prog W' = .ok (.bool jump.isNone) (W'.putObj (x2 + 1 + 1 + 1 + 1 + 1 + 1) (.loop (rec (if jump.isNone then .ready else .done) jump))) := fun jump W' h => by
   have := run_endRound (P := Tryz.prog) jump h
   rw [this,← hrb,erec]
  rw [erec] at hy
  clear erec hrb
  have aend : Asd (∀ (jump : Option Go.Code) (W' : World),W'.heap[x2 + 1 + 1 + 1 + 1 + 1 + 1]? = some (.loop rb) → (Instr.endRound (x2 + 1 + 1 + 1 + 1 + 1 + 1) jump).run Tryz.prog W' = .ok (.bool jump.isNone) (W'.putObj (x2 + 1 + 1 + 1 + 1 + 1 + 1) (.loop (rec (if jump.isNone then .ready else .done) jump)))) := hend
  clear hend
  have hltL : x2 + 1 + 1 + 1 + 1 + 1 + 1 < W2.heap.size := (Array.getElem?_eq_some_iff.1 qL).1
  obtain ⟨W3,hW3⟩ : ∃ W3,W2.putObj (x2 + 1 + 1 + 1 + 1 + 1 + 1) (.loop rb) = W3 := ⟨_,rfl⟩
  have hk3 : ∀ x,x ≠ x2 + 1 + 1 + 1 + 1 + 1 + 1 → W3.heap[x]? = W2.heap[x]? := fun x hx => by rw [← hW3]; exact World.putObj_heap_other hx
  have far3 : Far Γ N w S μ H _ H.length (x2 + 1 + 1) W3 S1 μ1 H2 := far2.turn (by rw [← hW3]; simp [World.putObj]) (fun x hx _ => hk3 x (fun e => hx (by simp [e]))) (by rw [← hW3]; rfl) (by rw [← hW3]; rfl) (by rw [← hW3]; rfl)
  have q2 := (hk3 x2 (by omega)).trans q2
  have q3 := (hk3 (x2 + 1) (by omega)).trans q3
  have q4 := (hk3 (x2 + 1 + 1 + 1) (by omega)).trans q4
  have qB := (hk3 (x2 + 1 + 1 + 1 + 1) (by omega)).trans hB2
  have qD := (hk3 (x2 + 1 + 1 + 1 + 1 + 1) (by omega)).trans qD
  have qL : W3.heap[x2 + 1 + 1 + 1 + 1 + 1 + 1]? = some (.loop rb) := by rw [← hW3]; exact World.putObj_heap_same hltL
  rw [hW3] at hbg
  clear hW3 hk3 far2 hB2
  have hct := Dc hcal far3 (f := tr) (by rw [htr]; exact Ab.enters_of Tryz.func103 (by kernel_rfl) rfl) k2 hctr (us := [.string ⟨(xZ (c :: r0) i).toArray⟩,.string ⟨#[10]⟩]) ⟨.p _ _ (.str _),.p _ _ (.str _),trivial⟩
  rw [htr] at hct
  have hct2 : Asd (Calls Tryz.prog 103 #[.string ⟨(xZ (c :: r0) i).toArray⟩,.string ⟨#[10]⟩] W3 fun e W4 => e = .returned (.string ⟨tt.toArray⟩) ∧ ∃ S4 μ4,Far Γ N w S μ H [x2 + 1 + 1 + 1 + 1 + 1 + 1,x2 + 1 + 1 + 1 + 1 + 1,x2 + 1 + 1 + 1 + 1,x2 + 1 + 1 + 1,x2 + 1,x2] H.length (x2 + 1 + 1) W4 S4 μ4 H3 ∧
    ∀ b ∈ [x2 + 1 + 1 + 1 + 1 + 1 + 1,x2 + 1 + 1 + 1 + 1 + 1,x2 + 1 + 1 + 1 + 1,x2 + 1 + 1 + 1,x2 + 1,x2],W4.heap[b]? = W3.heap[b]?) := hct.mono fun e W4 h => by
   obtain ⟨vs,S4,μ4,rfl,hvs,far4,hb4⟩ := h
   match vs,hvs with
   | [v],⟨hv,_⟩ => exact ⟨by rw [hv.str_inv]; rfl,S4,μ4,far4,hb4⟩
  clear hct
  have hg103 : Fence.wide.fn 103 := trivial
  have hg104 : Fence.wide.fn 104 := trivial
  have hf103 : (Fence.wide.inRound (x2 + 1 + 1 + 1 + 1 + 1 + 1)).fn 103 := trivial
  have hf104 : (Fence.wide.inRound (x2 + 1 + 1 + 1 + 1 + 1 + 1)).fn 104 := trivial
  have e103 : ∀ args w,(callFunc 103 args).run Tryz.prog w = .ok (.enter 103 args) w := enters_of Tryz.func103 (by kernel_rfl) rfl
  have e104 : ∀ args w,(callFunc 104 args).run Tryz.prog w = .ok (.enter 104 args) w := enters_of Tryz.func104 (by kernel_rfl) rfl
  have afin : Asd (∀ W4 S4 μ4 Hn,Far Γ N w S μ H [x2 + 1 + 1 + 1 + 1 + 1 + 1,x2 + 1 + 1 + 1 + 1 + 1,x2 + 1 + 1 + 1 + 1,x2 + 1 + 1 + 1,x2 + 1,x2] H.length (x2 + 1 + 1) W4 S4 μ4 Hn → (∀ b ∈ [x2 + 1 + 1 + 1 + 1 + 1 + 1,x2 + 1 + 1 + 1 + 1 + 1,x2 + 1 + 1 + 1 + 1,x2 + 1 + 1 + 1,x2 + 1,x2],W4.heap[b]? = W3.heap[b]?) → oW ix tr ln cal H.length m (qu (c :: r0) i) Hn = some X →
    ∃ v W',(Instr.endRound (x2 + 1 + 1 + 1 + 1 + 1 + 1) none).run Tryz.prog W4 = .ok v W' ∧ ((Ending.returned v = .returned (.bool true) ∧ J (qu (c :: r0) i) W') ∨ (Ending.returned v = .returned (.bool false) ∧ Jx W'))) := by
   intro W4 S4 μ4 Hn far4 hb4 hp4
   have eL := (hb4 (x2 + 1 + 1 + 1 + 1 + 1 + 1) (by simp)).trans qL
   have hend := Asd.out aend none W4 eL
   have hlt4 := (Array.getElem?_eq_some_iff.1 eL).1
   refine ⟨_,_,hend,.inl ⟨rfl,?_⟩⟩
   have eJ : J = _ := aJ
   rw [eJ]
   have ho : ∀ x,x ≠ x2 + 1 + 1 + 1 + 1 + 1 + 1 → (W4.putObj (x2 + 1 + 1 + 1 + 1 + 1 + 1) (.loop (rec (if (none : Option Go.Code).isNone then .ready else .done) none))).heap[x]? = W4.heap[x]? := fun x hx => World.putObj_heap_other hx
   refine ⟨S4,μ4,Hn,m,far4.turn (by simp [World.putObj]) (fun x hx _ => ho x (fun e => hx (by simp [e]))) rfl rfl rfl,(ho x2 (by omega)).trans ((hb4 x2 (by simp)).trans q2),(ho (x2 + 1) (by omega)).trans ((hb4 (x2 + 1) (by simp)).trans q3),(ho (x2 + 1 + 1 + 1) (by omega)).trans ((hb4 (x2 + 1 + 1 + 1) (by simp)).trans q4),
    ⟨tB2,(ho (x2 + 1 + 1 + 1 + 1) (by omega)).trans ((hb4 (x2 + 1 + 1 + 1 + 1) (by simp)).trans qB)⟩,(ho (x2 + 1 + 1 + 1 + 1 + 1) (by omega)).trans ((hb4 (x2 + 1 + 1 + 1 + 1 + 1) (by simp)).trans qD),World.putObj_heap_same hlt4,?_,?_,hp4⟩
   ·have := DB (i := i) hne; omega
   ·have := DB (i := i) hne; omega
  have aret : Asd (∀ W5 S5 μ5 H4 er,Far Γ N w S μ H [x2 + 1 + 1 + 1 + 1 + 1 + 1,x2 + 1 + 1 + 1 + 1 + 1,x2 + 1 + 1 + 1 + 1,x2 + 1 + 1 + 1,x2 + 1,x2] H.length (x2 + 1 + 1) W5 S5 μ5 H4 → (∀ b ∈ [x2 + 1 + 1 + 1 + 1 + 1 + 1,x2 + 1 + 1 + 1 + 1 + 1,x2 + 1 + 1 + 1 + 1,x2 + 1 + 1 + 1,x2 + 1,x2],W5.heap[b]? = W3.heap[b]?) → er ≠ 0 → X = (er,H4) →
    ∃ v W',(Instr.endRound (x2 + 1 + 1 + 1 + 1 + 1 + 1) (some .ret)).run Tryz.prog ((W5.setCell ⟨x2,0,none⟩ (.pointer none)).setCell ⟨x2 + 1,0,none⟩ (.int .i64 er)) = .ok v W' ∧ ((Ending.returned v = .returned (.bool true) ∧ J (qu (c :: r0) i) W') ∨ (Ending.returned v = .returned (.bool false) ∧ Jx W'))) := by
   intro W5 S5 μ5 H4 er far5 hb5 he hX5
   have z2 := (hb5 x2 (by simp)).trans q2
   have z3 := (hb5 (x2 + 1) (by simp)).trans q3
   have zD := (hb5 (x2 + 1 + 1 + 1 + 1 + 1) (by simp)).trans qD
   have zL := (hb5 (x2 + 1 + 1 + 1 + 1 + 1 + 1) (by simp)).trans qL
   have b2 : Boxed (W5.setCell ⟨x2,0,none⟩ (.pointer none)) x2 78 (.pointer none) := Boxed.set (.pointer none) z2
   have o1 : ∀ x,x ≠ x2 → (W5.setCell ⟨x2,0,none⟩ (.pointer none)).heap[x]? = W5.heap[x]? := fun x hx => Below.heap_setCell _ _ _ x hx
   have b3 : Boxed ((W5.setCell ⟨x2,0,none⟩ (.pointer none)).setCell ⟨x2 + 1,0,none⟩ (.int .i64 er)) (x2 + 1) 33 (.int .i64 er) := Boxed.set (.int .i64 er) ((o1 (x2 + 1) (by omega)).trans z3)
   have o2 : ∀ x,x ≠ x2 + 1 → ((W5.setCell ⟨x2,0,none⟩ (.pointer none)).setCell ⟨x2 + 1,0,none⟩ (.int .i64 er)).heap[x]? = (W5.setCell ⟨x2,0,none⟩ (.pointer none)).heap[x]? := fun x hx => Below.heap_setCell _ _ _ x hx
   have s1 : ((W5.setCell ⟨x2,0,none⟩ (.pointer none)).setCell ⟨x2 + 1,0,none⟩ (.int .i64 er)).heap.size = W5.heap.size := by simp [World.setCell]
   have hoo : ∀ x,x ≠ x2 → x ≠ x2 + 1 → ((W5.setCell ⟨x2,0,none⟩ (.pointer none)).setCell ⟨x2 + 1,0,none⟩ (.int .i64 er)).heap[x]? = W5.heap[x]? := fun x h1 h2 => (o2 x h2).trans (o1 x h1)
   have far6 : Far Γ N w S μ H [x2 + 1 + 1 + 1 + 1 + 1 + 1,x2 + 1 + 1 + 1 + 1 + 1,x2 + 1 + 1 + 1 + 1,x2 + 1 + 1 + 1,x2 + 1,x2] H.length (x2 + 1 + 1) ((W5.setCell ⟨x2,0,none⟩ (.pointer none)).setCell ⟨x2 + 1,0,none⟩ (.int .i64 er)) S5 μ5 H4 := far5.turn (Nat.le_of_eq s1.symm) (fun x hx _ => hoo x (fun e => hx (by simp [e])) (fun e => hx (by simp [e]))) rfl rfl rfl
   have c2 : ((W5.setCell ⟨x2,0,none⟩ (.pointer none)).setCell ⟨x2 + 1,0,none⟩ (.int .i64 er)).heap[x2]? = some (.cells #[.pointer none] 78 (0,0)) := (o2 x2 (by omega)).trans b2
   have cD : ((W5.setCell ⟨x2,0,none⟩ (.pointer none)).setCell ⟨x2 + 1,0,none⟩ (.int .i64 er)).heap[x2 + 1 + 1 + 1 + 1 + 1]? = _ := (hoo _ (by omega) (by omega)).trans zD
   have eL : ((W5.setCell ⟨x2,0,none⟩ (.pointer none)).setCell ⟨x2 + 1,0,none⟩ (.int .i64 er)).heap[x2 + 1 + 1 + 1 + 1 + 1 + 1]? = _ := (hoo _ (by omega) (by omega)).trans zL
   generalize (W5.setCell ⟨x2,0,none⟩ (.pointer none)).setCell ⟨x2 + 1,0,none⟩ (.int .i64 er) = W6 at far6 c2 b3 cD eL ⊢
   have hend := Asd.out aend (some .ret) W6 eL
   have hlt6 := (Array.getElem?_eq_some_iff.1 eL).1
   refine ⟨_,_,hend,.inr ⟨rfl,?_⟩⟩
   have eJx : Jx = _ := aJx
   rw [eJx]
   have ho : ∀ x,x ≠ x2 + 1 + 1 + 1 + 1 + 1 + 1 → (W6.putObj (x2 + 1 + 1 + 1 + 1 + 1 + 1) (.loop (rec (if (some Go.Code.ret : Option Go.Code).isNone then .ready else .done) (some .ret)))).heap[x]? = W6.heap[x]? := fun x hx => World.putObj_heap_other hx
   exact ⟨S5,μ5,H4,er,far6.turn (by simp [World.putObj]) (fun x hx _ => ho x (fun e => hx (by simp [e]))) rfl rfl rfl,(ho x2 (by omega)).trans c2,(ho (x2 + 1) (by omega)).trans b3,(ho (x2 + 1 + 1 + 1 + 1 + 1) (by omega)).trans cD,World.putObj_heap_same hlt6,he,hX5⟩
  refine ⟨fn,_,_,_,hy,roundIn_of_wpIn trivial ?_⟩
  clear hy
  simp only [List.zip_toArray,Array.foldl_toList,List.zip_cons_cons,List.foldl_toArray]
  cases tt with
  | nil =>
   have ap : Asd _ := hp
   clear hp
   gi_wp2_with (gi_at_call 103; refine (CallsIn.inRound _ (callsIn_wide.2 (Asd.out hct2))).mono ?_; rintro e W4 ⟨rfl,S4,μ4,far4,hb4⟩)
   exact Asd.out afin W4 S4 μ4 H3 far4 hb4 (Asd.out ap)
  | cons x t' =>
   simp only at hp
   have hx0 : ∀ h,(⟨(x :: t').toArray⟩ : ByteArray)[0]'h = x := fun _ => rfl
   have cells4 : ∀ W4 : World,(∀ b ∈ [x2 + 1 + 1 + 1 + 1 + 1 + 1,x2 + 1 + 1 + 1 + 1 + 1,x2 + 1 + 1 + 1 + 1,x2 + 1 + 1 + 1,x2 + 1,x2],W4.heap[b]? = W3.heap[b]?) → W4.cell? ⟨x2 + 1 + 1 + 1,0,none⟩ = some (.pointer (some ⟨x2 + 1 + 1,0,none⟩)) := fun W4 h => by
    have := (h (x2 + 1 + 1 + 1) (by simp)).trans q4
    simp [World.cell?,this]
   by_cases hx : x = 35
   ·have hxb : ((x.toNat : Int) == 35) = true := by subst hx; rfl
    rw [if_pos hx] at hp
    have ap : Asd _ := hp
    clear hp
    gi_wp2_with (gi_at_call 103; refine (CallsIn.inRound _ (callsIn_wide.2 (Asd.out hct2))).mono ?_; rintro e W4 ⟨rfl,S4,μ4,far4,hb4⟩)
    exact Asd.out afin W4 S4 μ4 H3 far4 hb4 (Asd.out ap)
   ·have hxb : ((x.toNat : Int) == 35) = false := by
     simp only [beq_eq_false_iff_ne,ne_eq]
     intro e
     apply hx
     apply UInt8.toNat_inj.1
     have : (35 : UInt8).toNat = 35 := rfl
     omega
    rw [if_neg hx] at hp
    split at hp
    rotate_left
    ·cases hp
    rename_i er H4 hcln
    have hcl2 : Asd (∀ W4 S4 μ4,Far Γ N w S μ H [x2 + 1 + 1 + 1 + 1 + 1 + 1,x2 + 1 + 1 + 1 + 1 + 1,x2 + 1 + 1 + 1 + 1,x2 + 1 + 1 + 1,x2 + 1,x2] H.length (x2 + 1 + 1) W4 S4 μ4 H3 → Calls Tryz.prog 104 #[.pointer (some ⟨x2 + 1 + 1,0,none⟩),.string ⟨(x :: t').toArray⟩] W4 fun e W5 => e = .returned (.int .i64 er) ∧ ∃ S5 μ5,
      Far Γ N w S μ H [x2 + 1 + 1 + 1 + 1 + 1 + 1,x2 + 1 + 1 + 1 + 1 + 1,x2 + 1 + 1 + 1 + 1,x2 + 1 + 1 + 1,x2 + 1,x2] H.length (x2 + 1 + 1) W5 S5 μ5 H4 ∧ ∀ b ∈ [x2 + 1 + 1 + 1 + 1 + 1 + 1,x2 + 1 + 1 + 1 + 1 + 1,x2 + 1 + 1 + 1 + 1,x2 + 1 + 1 + 1,x2 + 1,x2],W5.heap[b]? = W4.heap[b]?) := fun W4 S4 μ4 far4 => by
     have h := Dc hcal far4 (f := ln) (by rw [hln]; exact Ab.enters_of Tryz.func104 (by kernel_rfl) rfl) k3 hcln (us := [.pointer (some ⟨x2 + 1 + 1,0,none⟩),.string ⟨(x :: t').toArray⟩]) ⟨far4.bx,.p _ _ (.str _),trivial⟩
     rw [hln] at h
     refine h.mono ?_
     rintro e W5 ⟨vs,S5,μ5,rfl,hvs,far5,hb5⟩
     match vs,hvs with
     | [v],⟨hv,_⟩ => exact ⟨by rw [hv.p_inv.int_inv]; rfl,S5,μ5,far5,hb5⟩
    by_cases he : er = 0
    ·subst he
     rw [if_pos rfl] at hp
     have ap : Asd _ := hp
     clear hp
     gi_wp2_with (first
      | (gi_at_call 103; refine (CallsIn.inRound _ (callsIn_wide.2 (Asd.out hct2))).mono ?_; rintro e W4 ⟨rfl,S4,μ4,far4,hb4⟩; have c4' := cells4 W4 hb4)
      | (gi_at_call 104; refine (CallsIn.inRound _ (callsIn_wide.2 (Asd.out hcl2 _ _ _ far4))).mono ?_; rintro e W5 ⟨rfl,S5,μ5,far5,hb5⟩))
     exact Asd.out afin W5 S5 μ5 H4 far5 (fun b hb => (hb5 b hb).trans (hb4 b hb)) (Asd.out ap)
    ·rw [if_neg he] at hp
     have heb : (er == 0) = false := by simpa using he
     have ap : Asd _ := hp
     clear hp
     gi_wp2_with (first
      | (gi_at_call 103; refine (CallsIn.inRound _ (callsIn_wide.2 (Asd.out hct2))).mono ?_; rintro e W4 ⟨rfl,S4,μ4,far4,hb4⟩; have c4' := cells4 W4 hb4)
      | (gi_at_call 104; refine (CallsIn.inRound _ (callsIn_wide.2 (Asd.out hcl2 _ _ _ far4))).mono ?_; rintro e W5 ⟨rfl,S5,μ5,far5,hb5⟩; have z2 := (hb5 x2 (by simp)).trans ((hb4 x2 (by simp)).trans q2); have z3 := (hb5 (x2 + 1) (by simp)).trans ((hb4 (x2 + 1) (by simp)).trans q3); have y2 : W5.cell? ⟨x2,0,none⟩ = some (.pointer none) := (by simp [World.cell?,z2]); have f2 : W5.frozen? ⟨x2,0,none⟩ = false := (by simp [World.frozen?,z2]); have y3 : W5.cell? ⟨x2 + 1,0,none⟩ = some (.int .i64 0) := (by simp [World.cell?,z3]); have f3 : W5.frozen? ⟨x2 + 1,0,none⟩ = false := (by simp [World.frozen?,z3])))
     exact Asd.out aret W5 S5 μ5 H4 er far5 (fun b hb => (hb5 b hb).trans (hb4 b hb)) he (Option.some.inj (Asd.out ap)).symm
 case fin =>
  have aleave : Asd (∀ (W6 : World) (p : Option Addr) (er : Int) S5 μ5,Far Γ N w S μ H [x2 + 1 + 1 + 1 + 1 + 1 + 1,x2 + 1 + 1 + 1 + 1 + 1,x2 + 1 + 1 + 1 + 1,x2 + 1 + 1 + 1,x2 + 1,x2] H.length (x2 + 1 + 1) W6 S5 μ5 H' → W6.heap[x2]? = some (.cells #[.pointer p] 78 (0,0)) → W6.heap[x2 + 1]? = some (.cells #[.int .i64 er] 33 (0,0)) → W6.heap[x2 + 1 + 1 + 1 + 1 + 1]? = some (.deferred (some [])) →
    All2 (fun u x => RelV N.fn W6 S5 μ5 H' x u) [.pointer p,.int .i64 er] rs → ∀ tmps : Array Value,tmps.getD 2 undef = .pointer (some ⟨x2,0,none⟩) → tmps.getD 3 undef = .pointer (some ⟨x2 + 1,0,none⟩) →
    LeavesInM Fence.wide 8 Tryz.prog Tryz.f49 tmps (fun e w' => ∃ v,e = .returned v ∧ ∃ vs S' μ',v = iK vs ∧ Run N.fn w S μ H w' S' μ' H' ∧ Moves μ H μ' H' ∧ All2 (fun u x => RelV N.fn w' S' μ' H' x u) vs rs) [{ target := .collected (x2 + 1 + 1 + 1 + 1 + 1),args := #[] }] .returning W6) := by
   intro W6 p er S5 μ5 far6 z2 z3 zD hall6 tmps t2 t3
   refine ⟨by simp,.inl ⟨_,_,rfl,run_takeDeferred zD,?_⟩⟩
   have ho : ∀ x,x ≠ x2 + 1 + 1 + 1 + 1 + 1 → (W6.putObj (x2 + 1 + 1 + 1 + 1 + 1) (.deferred none)).heap[x]? = W6.heap[x]? := fun x hx => World.putObj_heap_other hx
   have far7 : Far Γ N w S μ H [x2 + 1 + 1 + 1 + 1 + 1 + 1,x2 + 1 + 1 + 1 + 1 + 1,x2 + 1 + 1 + 1 + 1,x2 + 1 + 1 + 1,x2 + 1,x2] H.length (x2 + 1 + 1) (W6.putObj (x2 + 1 + 1 + 1 + 1 + 1) (.deferred none)) S5 μ5 H' := far6.turn (by simp [World.putObj]) (fun x hx _ => ho x (fun e => hx (by simp [e]))) rfl rfl rfl
   have hall7 : All2 (fun u x => RelV N.fn (W6.putObj (x2 + 1 + 1 + 1 + 1 + 1) (.deferred none)) S5 μ5 H' x u) [.pointer p,.int .i64 er] rs := hall6.imp fun u x hux => hux.turn fun g hg => ho g fun e => by
    obtain ⟨_,_,n1,n2⟩ := far6.un (x2 + 1 + 1 + 1 + 1 + 1) (by simp)
    subst e
    exact hg.elim n1 n2
   have z2 := (ho x2 (by omega)).trans z2
   have z3 := (ho (x2 + 1) (by omega)).trans z3
   generalize W6.putObj (x2 + 1 + 1 + 1 + 1 + 1) (.deferred none) = W7 at far7 hall7 z2 z3 ⊢
   have y2 : W7.cell? ⟨x2,0,none⟩ = some (.pointer p) := by simp [World.cell?,z2]
   have y3 : W7.cell? ⟨x2 + 1,0,none⟩ = some (.int .i64 er) := by simp [World.cell?,z3]
   have hres : (results Tryz.f49 tmps).run Tryz.prog W7 = .ok (iK [.pointer p,.int .i64 er]) W7 := by
    refine wY ?_
    have e : Tryz.f49.results.toList = [.cell 2 78,.cell 3 33] := by kernel_rfl
    rw [e]
    simp only [List.mapM_cons,List.mapM_nil,Pu,t2,t3,Go.asAddr]
    simp [go_sem,y2,y3,Result.andThen]
   exact ⟨_,hres,_,rfl,_,S5,μ5,rfl,far7.run,far7.mv,hall7⟩
  have aset : Asd (∀ (W4 : World) (p p0 : Option Addr) (er e0 : Int) S5 μ5 Hn,Far Γ N w S μ H [x2 + 1 + 1 + 1 + 1 + 1 + 1,x2 + 1 + 1 + 1 + 1 + 1,x2 + 1 + 1 + 1 + 1,x2 + 1 + 1 + 1,x2 + 1,x2] H.length (x2 + 1 + 1) W4 S5 μ5 Hn → W4.heap[x2]? = some (.cells #[.pointer p0] 78 (0,0)) → W4.heap[x2 + 1]? = some (.cells #[.int .i64 e0] 33 (0,0)) → W4.heap[x2 + 1 + 1 + 1 + 1 + 1]? = some (.deferred (some [])) →
    ∀ W6,W6 = (W4.setCell ⟨x2,0,none⟩ (.pointer p)).setCell ⟨x2 + 1,0,none⟩ (.int .i64 er) → Far Γ N w S μ H [x2 + 1 + 1 + 1 + 1 + 1 + 1,x2 + 1 + 1 + 1 + 1 + 1,x2 + 1 + 1 + 1 + 1,x2 + 1 + 1 + 1,x2 + 1,x2] H.length (x2 + 1 + 1) W6 S5 μ5 Hn ∧ W6.heap[x2]? = some (.cells #[.pointer p] 78 (0,0)) ∧ W6.heap[x2 + 1]? = some (.cells #[.int .i64 er] 33 (0,0)) ∧ W6.heap[x2 + 1 + 1 + 1 + 1 + 1]? = some (.deferred (some []))) := by
   intro W4 p p0 er e0 S5 μ5 Hn far4 z2 z3 zD W6 hW6
   have b2 : Boxed (W4.setCell ⟨x2,0,none⟩ (.pointer p)) x2 78 (.pointer p) := Boxed.set (.pointer p) z2
   have o1 : ∀ x,x ≠ x2 → (W4.setCell ⟨x2,0,none⟩ (.pointer p)).heap[x]? = W4.heap[x]? := fun x hx => Below.heap_setCell _ _ _ x hx
   have b3 : Boxed ((W4.setCell ⟨x2,0,none⟩ (.pointer p)).setCell ⟨x2 + 1,0,none⟩ (.int .i64 er)) (x2 + 1) 33 (.int .i64 er) := Boxed.set (.int .i64 er) ((o1 (x2 + 1) (by omega)).trans z3)
   have o2 : ∀ x,x ≠ x2 + 1 → ((W4.setCell ⟨x2,0,none⟩ (.pointer p)).setCell ⟨x2 + 1,0,none⟩ (.int .i64 er)).heap[x]? = (W4.setCell ⟨x2,0,none⟩ (.pointer p)).heap[x]? := fun x hx => Below.heap_setCell _ _ _ x hx
   have s1 : ((W4.setCell ⟨x2,0,none⟩ (.pointer p)).setCell ⟨x2 + 1,0,none⟩ (.int .i64 er)).heap.size = W4.heap.size := by simp [World.setCell]
   have hoo : ∀ x,x ≠ x2 → x ≠ x2 + 1 → ((W4.setCell ⟨x2,0,none⟩ (.pointer p)).setCell ⟨x2 + 1,0,none⟩ (.int .i64 er)).heap[x]? = W4.heap[x]? := fun x h1 h2 => (o2 x h2).trans (o1 x h1)
   subst hW6
   exact ⟨far4.turn (Nat.le_of_eq s1.symm) (fun x hx _ => hoo x (fun e => hx (by simp [e])) (fun e => hx (by simp [e]))) rfl rfl rfl,(o2 x2 (by omega)).trans b2,b3,(hoo _ (by omega) (by omega)).trans zD⟩
  rintro e W ⟨⟨v,rfl⟩,h | h⟩
  ·rw [eJ] at h
   clear eJ
   obtain ⟨S',μ',Hn,m,far,q2,q3,q4,-,qD,qL,-,hm,hp⟩ := h
   obtain ⟨m,rfl⟩ : ∃ k,m = k + 1 := ⟨m - 1,by simp at hm; omega⟩
   simp only [oW,Option.some.injEq] at hp
   subst hp
   simp only [Kj,if_true] at hE
   split at hE
   rotate_left
   ·cases hE
   rename_i ax ay hbox
   split at hE
   rotate_left
   ·cases hE
   rename_i ln1 ln2 hl1 hl2
   simp only [Option.ite_none_right_eq_some] at hE
   obtain ⟨⟨hb1,hb2⟩,hE⟩ := hE
   have erec : rec = _ := arec
   have hel := run_endLoop (P := Tryz.prog) qL (by rw [erec]; simp)
   have hpd : (rec .ready none).pending = none := by rw [erec]
   clear erec
   have hltL := (Array.getElem?_eq_some_iff.1 qL).1
   obtain ⟨W4,hW4⟩ : ∃ W4,W.putObj (x2 + 1 + 1 + 1 + 1 + 1 + 1) (.loop { rec LoopState.ready none with state := .exhausted }) = W4 := ⟨_,rfl⟩
   rw [hW4,hpd] at hel
   have ho : ∀ x,x ≠ x2 + 1 + 1 + 1 + 1 + 1 + 1 → W4.heap[x]? = W.heap[x]? := fun x hx => by rw [← hW4]; exact World.putObj_heap_other hx
   have far4 : Far Γ N w S μ H [x2 + 1 + 1 + 1 + 1 + 1 + 1,x2 + 1 + 1 + 1 + 1 + 1,x2 + 1 + 1 + 1 + 1,x2 + 1 + 1 + 1,x2 + 1,x2] H.length (x2 + 1 + 1) W4 S' μ' Hn := far.turn (by rw [← hW4]; simp [World.putObj]) (fun x hx _ => ho x (fun e => hx (by simp [e]))) (by rw [← hW4]; rfl) (by rw [← hW4]; rfl) (by rw [← hW4]; rfl)
   have q2 := (ho x2 (by omega)).trans q2
   have q3 := (ho (x2 + 1) (by omega)).trans q3
   have q4 := (ho (x2 + 1 + 1 + 1) (by omega)).trans q4
   have qD := (ho (x2 + 1 + 1 + 1 + 1 + 1) (by omega)).trans qD
   clear hW4 ho far qL
   obtain ⟨g',arr,tt,e1,e2,e3,e4,e5⟩ := far4.run.rel.box_of hbox
   have eg : g' = x2 + 1 + 1 := by
    obtain ⟨g2,k1,k2,k3⟩ := far4.bx.bx_inv
    cases k1
    rw [k3 _ (jo hbox)] at e1
    cases e1; rfl
   subst eg
   obtain ⟨a1,c1,r1⟩ := IV far4.run.rel (e5 0 ax rfl) hl1
   obtain ⟨a2,c2',r2⟩ := IV far4.run.rel (e5 1 ay rfl) hl2
   have e3 : arr.size = 2 := by simpa using e3
   have d1 : W4.cell? ⟨x2 + 1 + 1,0,none⟩ = some (.slice a1 ln1 c1) := by
    have : arr[0]'(by omega) = .slice a1 ln1 c1 := by simpa [Array.getD,e3] using r1
    simp [World.cell?,e2,this,e3]
   have d2 : W4.cell? ⟨x2 + 1 + 1,1,none⟩ = some (.slice a2 ln2 c2') := by
    have : arr[1]'(by omega) = .slice a2 ln2 c2' := by simpa [Array.getD,e3] using r2
    simp [World.cell?,e2,this,e3]
   have d4 : W4.cell? ⟨x2 + 1 + 1 + 1,0,none⟩ = some (.pointer (some ⟨x2 + 1 + 1,0,none⟩)) := by simp [World.cell?,q4]
   have y2 : W4.cell? ⟨x2,0,none⟩ = some (.pointer none) := by simp [World.cell?,q2]
   have f2 : W4.frozen? ⟨x2,0,none⟩ = false := by simp [World.frozen?,q2]
   have y3 : W4.cell? ⟨x2 + 1,0,none⟩ = some (.int .i64 0) := by simp [World.cell?,q3]
   have f3 : W4.frozen? ⟨x2 + 1,0,none⟩ = false := by simp [World.frozen?,q3]
   refine ⟨none,W4,hel,?_⟩
   clear hel e1 e2 e3 e4 e5 r1 r2
   have aE : Asd _ := hE
   have afar : Asd _ := far4
   clear hE far4 hg
   by_cases h1 : 64 < ln1
   ·have h1b : decide ((64 : Int) < (ln1 : Int)) = true := decide_eq_true (by omega)
    gi_wp2
    have hE2 := Asd.out aE
    rw [if_pos (by omega)] at hE2
    simp only [Option.some.injEq,Prod.mk.injEq] at hE2
    obtain ⟨rfl,rfl⟩ := hE2
    obtain ⟨f6,z2,z3,zD⟩ := Asd.out aset W4 none none 13 0 S' μ' _ (Asd.out afar) q2 q3 qD _ rfl
    exact Asd.out aleave _ none 13 S' μ' f6 z2 z3 zD ⟨.p _ _ .nilp,.p _ _ (.int _ _),trivial⟩ _ rfl rfl
   ·have h1b : decide ((64 : Int) < (ln1 : Int)) = false := decide_eq_false (by omega)
    by_cases h2 : 64 < ln2
    ·have h2b : decide ((64 : Int) < (ln2 : Int)) = true := decide_eq_true (by omega)
     gi_wp2
     have hE2 := Asd.out aE
     rw [if_pos (by omega)] at hE2
     simp only [Option.some.injEq,Prod.mk.injEq] at hE2
     obtain ⟨rfl,rfl⟩ := hE2
     obtain ⟨f6,z2,z3,zD⟩ := Asd.out aset W4 none none 13 0 S' μ' _ (Asd.out afar) q2 q3 qD _ rfl
     exact Asd.out aleave _ none 13 S' μ' f6 z2 z3 zD ⟨.p _ _ .nilp,.p _ _ (.int _ _),trivial⟩ _ rfl rfl
    ·have h2b : decide ((64 : Int) < (ln2 : Int)) = false := decide_eq_false (by omega)
     gi_wp2
     have hE2 := Asd.out aE
     rw [if_neg (by omega)] at hE2
     simp only [Option.some.injEq,Prod.mk.injEq] at hE2
     obtain ⟨rfl,rfl⟩ := hE2
     obtain ⟨f6,z2,z3,zD⟩ := Asd.out aset W4 (some ⟨x2 + 1 + 1,0,none⟩) none 0 0 S' μ' _ (Asd.out afar) q2 q3 qD _ rfl
     exact Asd.out aleave _ (some ⟨x2 + 1 + 1,0,none⟩) 0 S' μ' f6 z2 z3 zD ⟨f6.bx,.p _ _ (.int _ _),trivial⟩ _ rfl rfl
  ·have eJx : Jx = _ := aJx
   rw [eJx] at h
   clear eJx eJ
   obtain ⟨S',μ',Hn,er,far,q2,q3,qD,qL,he,hX2⟩ := h
   subst hX2
   have erec : rec = _ := arec
   have hel := run_endLoop (P := Tryz.prog) qL (by rw [erec]; simp)
   have hpd : (rec .done (some .ret)).pending = some .ret := by rw [erec]
   clear erec
   obtain ⟨W4,hW4⟩ : ∃ W4,W.putObj (x2 + 1 + 1 + 1 + 1 + 1 + 1) (.loop { rec LoopState.done (some .ret) with state := .exhausted }) = W4 := ⟨_,rfl⟩
   rw [hW4,hpd] at hel
   have ho : ∀ x,x ≠ x2 + 1 + 1 + 1 + 1 + 1 + 1 → W4.heap[x]? = W.heap[x]? := fun x hx => by rw [← hW4]; exact World.putObj_heap_other hx
   have far4 : Far Γ N w S μ H [x2 + 1 + 1 + 1 + 1 + 1 + 1,x2 + 1 + 1 + 1 + 1 + 1,x2 + 1 + 1 + 1 + 1,x2 + 1 + 1 + 1,x2 + 1,x2] H.length (x2 + 1 + 1) W4 S' μ' Hn := far.turn (by rw [← hW4]; simp [World.putObj]) (fun x hx _ => ho x (fun e => hx (by simp [e]))) (by rw [← hW4]; rfl) (by rw [← hW4]; rfl) (by rw [← hW4]; rfl)
   have q2 := (ho x2 (by omega)).trans q2
   have q3 := (ho (x2 + 1) (by omega)).trans q3
   have qD := (ho (x2 + 1 + 1 + 1 + 1 + 1) (by omega)).trans qD
   clear hW4 ho far qL
   refine ⟨some .ret,W4,hel,?_⟩
   gi_wp2
   exact Asd.out aleave W4 none er S' μ' (by simp only [Kj,if_neg he,Option.some.injEq,Prod.mk.injEq] at hE; rw [← hE.2]; exact far4) q2 q3 qD (by simp only [Kj,if_neg he,Option.some.injEq,Prod.mk.injEq] at hE; rw [← hE.1]; exact ⟨.p _ _ .nilp,.p _ _ (.int _ _),trivial⟩) _ rfl rfl
end
end Go.Proofs
