import Derived.Calls
set_option linter.all false
namespace Ab
open Go
def rwd{α:Type}:Result α->World|.ok _ w=>w|.halt _ w=>w
theorem xD{e:Type}:∀(k:Ask e)(w:World),w.drawn<=(w.ask k).2.drawn
 |.done a,w=>Nat.le_refl _|.ask c b k,w=>by
  unfold World.ask;simp;split;·exact xD _ _
  ·exact Nat.le_trans (Nat.le_succ _) (xD (k _) {w with drawn:=w.drawn+1})
theorem Ac(w:World)(c:Sys):w.drawn<=(w.sys c).2.drawn:=by have h:=xD (Kernel.perform c w.os) w;unfold World.sys;grind
theorem qn{P:Program}{w d:World}{a:Addr}{v:Value}{b:Bool}{l:List Addr}(h:w.farStore P a v b=.ok (d,l)):d.drawn=w.drawn:=by
 unfold World.farStore at h;split at h
 ·split at h
  ·rename_i r c;cases h;unfold World.viewStore at c;simp[bind,Except.bind,]at c;repeat' split at c
   all_goals first|cases c;rfl|cases c
  grind
 grind
theorem vf(w:World)(a:Addr)(n:Nat):(w.freeze a n).drawn=w.drawn:=by unfold World.freeze;grind
theorem aU{P:Program}{g:Type}:∀(s:Sem g)(w:World),w.drawn<=(rwd (s.run P w)).drawn
 |.pure a,w=>Nat.le_refl _|.load m a k,w=>by
  simp[Sem.run];split;·exact aU _ _
  ·split;·exact aU _ _
   ·exact Nat.le_refl _|.new o k,w=>aU (k w.heap.size) {w with heap:=w.heap.push o}|.shape r k,w=>aU (k _) w|.frozen a k,w=>aU (k _) w|.getObj r k,w=>by
  simp[Sem.run];split;·exact Nat.le_refl _
  ·exact aU _ _
  ·exact Nat.le_refl _|.setObj r o k,w=>by
  simp[Sem.run];split;·exact Nat.le_refl _
  ·exact aU k {w with heap:=w.heap.setIfInBounds r o}
  ·exact Nat.le_refl _|.choose q k,w=>by
  simp[Sem.run];split;·exact aU _ _
  ·exact Nat.le_trans (Nat.le_succ _) (aU (k _) {w with drawn:=w.drawn+1})|.sys c k,w=>Nat.le_trans (Ac w c) (aU (k _) _)|.program k,w=>aU (k _) w|.mark m k,w=>aU k w|.halt i,w=>Nat.le_refl _|.freeze a n k,w=>by have d:=aU (P:=P) k (w.freeze a n);rw[vf]at d;exact d|.store m a v k,w=>by
  have e:w.drawn<=(rwd (match w.cell? a with|some _=>if w.frozen? a then Result.halt (.unsupported (.unsafePointer "a write to bytes that a string shares")) w else k.run P (w.setCell a v)|none=>match w.farStore P a v (m==Mode.atomic)with|.ok (w,_)=>k.run P w|.error h=>.halt h w)).drawn:=by
   split
   ·split;·exact Nat.le_refl _
    ·exact aU k (w.setCell a v)
   ·split;·rename_i f;exact Nat.le_trans (Nat.le_of_eq (qn f).symm) (aU k _)
    ·exact Nat.le_refl _
  cases v with|agg xs=>exact Nat.le_refl _|tuple xs=>exact Nat.le_refl _|_=>simp[Sem.run];grind
theorem bc{P:Program}{i:Type}:∀(s:Sem i)(w:World)(b:Array Event),w.drawn<=(rwd (s.runT P w b).1).drawn
 |.pure a,w,b=>Nat.le_refl _|.load m a k,w,b=>by
  simp only[Sem.runT];split;·exact bc _ _ _
  ·split;·exact bc _ _ _
   ·exact Nat.le_refl _|.new o k,w,b=>bc (k w.heap.size) {w with heap:=w.heap.push o} _|.shape r k,w,b=>bc (k _) w _|.frozen a k,w,b=>bc (k _) w _|.getObj r k,w,b=>by
  simp only[Sem.runT];split;·exact Nat.le_refl _
  ·exact bc _ _ _
  ·exact Nat.le_refl _|.setObj r o k,w,b=>by
  simp only[Sem.runT];split;·exact Nat.le_refl _
  ·exact bc k {w with heap:=w.heap.setIfInBounds r o} _
  ·exact Nat.le_refl _|.choose q k,w,b=>by
  simp only[Sem.runT];split;·exact bc _ _ _
  ·exact Nat.le_trans (Nat.le_succ _) (bc (k _) {w with drawn:=w.drawn+1} _)|.sys c k,w,b=>Nat.le_trans (Ac w c) (bc (k _) _ _)|.program k,w,b=>bc (k _) w _|.mark m k,w,b=>bc k w _|.halt l,w,b=>Nat.le_refl _|.freeze a n k,w,b=>by have f:=bc (P:=P) k (w.freeze a n) b;rw[vf]at f;exact f|.store m a v k,w,b=>by
  have g:w.drawn<=(rwd (match w.cell? a with|some _=>if w.frozen? a then(Result.halt (.unsupported (.unsafePointer "a write to bytes that a string shares")) w,b)else k.runT P (w.setCell a v) (b.push ⟨.cell a,true,m==Mode.atomic⟩)|none=>match w.farStore P a v (m==Mode.atomic)with|.ok (w,e)=>k.runT P w (b++e.toArray.map λa=>(⟨.cell a,true,m==Mode.atomic⟩:Event))|.error h=>(.halt h w,b)).1).drawn:=by
   split
   ·split;·exact Nat.le_refl _
    ·exact bc k (w.setCell a v) _
   ·split;·rename_i j;exact Nat.le_trans (Nat.le_of_eq (qn j).symm) (bc k _ _)
    ·exact Nat.le_refl _
  cases v with|agg xs=>exact Nat.le_refl _|tuple xs=>exact Nat.le_refl _|_=>simp only[Sem.runT];grind
def gsw:GStep->World|.go _ w _|.comm _ _ _ _ w _|.spawn _ _ w _|.count _ w _|.timer _ _ w _|.alone _ _ w _|.newcoro _ _ _ w _|.coroswitch _ _ _ w _|.collect _ w _|.watch _ w _|.ended _ w _=>w
theorem jR(a:Array Event)(s:GStep):gsw (s.after a)=gsw s:=by cases s<;>rfl
theorem zr{n:Nat}{c:Bool}{a b:GStep}(d:n<=(gsw a).drawn)(e:n<=(gsw b).drawn):n<=(gsw (if c=true then a else b)).drawn:=by grind
theorem JP(w:World)(a:Nat)(t:ByteArray)(o:Outcome):w.drawn<=(gsw (endWith w a t o)).drawn:=by
 have h:=Ac w (.write a t);unfold endWith;simp;split<;>rename_i e<;>rw[e]at h;·split<;>exact h
 ·exact h
 ·exact h
theorem oe(P:Program)(a:Frame)(v:Value)(w:World):gsw (endPrinting P a v w)=w:=by unfold endPrinting;simp;split<;>rfl
theorem uJ(P:Program)(a:Frame)(cs:List Frame)(d:Option Dying)(m:String)(w:World):w.drawn<=(gsw (endFatal P a cs d m w)).drawn:=by unfold endFatal;simp;split;all_goals rename_i e;have h:=congrArg (λr=>(rwd r).drawn) e;refine Nat.le_trans (aU _ _) (Nat.le_of_eq h)
theorem oG(P:Program)(a:Bool)(b:Frame)(cs:List Frame)(d:Option Dying)(v:Value)(w:World):gsw (doReturn P a b cs d v w)=w:=by
 unfold doReturn;repeat' split
 all_goals rfl
theorem HG(P:Program)(a:Frame)(d:Dying)(f:Fatal)(w:World):w.drawn<=(gsw (writeOn P a d f w)).drawn:=by
 unfold writeOn;simp only;split;·exact Nat.le_refl _
 ·split;all_goals rename_i e;have h:=congrArg (λr=>(rwd r.1).drawn) e;refine Nat.le_trans (bc _ _ _) (Nat.le_of_eq h)
theorem die_gsw(P:Program)(g:Frame)(d:Dying)(w:World):w.drawn<=(gsw (die P g d w)).drawn:=by
 unfold die;split;·exact HG _ _ _ _ _
 ·split
  ·split;·exact Nat.le_refl _
   ·exact JP _ _ _ _
  ·simp only;split;·exact Nat.le_refl _
   ·split;all_goals rename_i e;have h:=congrArg (λr=>(rwd r).drawn) e;refine Nat.le_trans (aU _ _) (Nat.le_of_eq h)
   ·rw[jR];generalize c:Sem.runT P _ w #[]=x;have a:w.drawn<=(rwd x.1).drawn:=by rw[<-c];exact bc _ _ _
    clear c;let⟨r,j⟩:=x;cases r with
    |ok v f=>simp[]at a;cases v<;>(try simp)<;>first|exact a|exact Nat.le_refl _|(rename_i x;cases x<;>first|exact a|exact Nat.le_refl _)
    |halt i f=>simp[rwd]at a;cases i<;>(try simp)<;>first|exact a|exact Nat.le_refl _|(rw[oe];grind)
   ·exact Nat.le_refl _
theorem vB(P:Program)(c:Frame)(cs:List Frame)(g:Option Dying)(d:Deferred)(w:World):w.drawn<=(gsw (callDeferred P c cs g d w)).drawn:=by
 unfold callDeferred;refine zr (Nat.le_refl _) ?_
 ·simp only;rw[jR];generalize b:Sem.runT P _ w #[]=x;have a:w.drawn<=(rwd x.1).drawn:=by rw[<-b];exact bc _ _ _
  clear b;let⟨r,h⟩:=x;cases r with
  |ok v e=>simp[]at a;cases v<;>(try simp)<;>first|exact a|(split<;>exact a)|(rename_i x;cases x<;>exact a)|(rename_i x _;cases x<;>exact a)
  |halt f e=>simp[]at a;cases f<;>simp<;>first|exact a|exact Nat.le_trans a (uJ _ _ _ _ _ _)
theorem Ny(P:Program)(g:Bool)(f:Frame)(cs:List Frame)(i:Option Dying)(w:World):w.drawn<=(gsw (unwind P g f cs i w)).drawn:=by
 unfold unwind;split
 ·simp only;rw[jR];generalize a:Sem.runT P _ w #[]=x;have b:w.drawn<=(rwd x.1).drawn:=by rw[<-a];exact bc _ _ _
  clear a;let⟨r,c⟩:=x;cases r<;>exact b
 ·exact vB _ _ _ _ _ _
 ·split;·exact Nat.le_refl _
  ·split;·exact Nat.le_refl _
   ·split;·exact Nat.le_refl _
    ·split
     ·split;·exact Nat.le_refl _
      ·split;all_goals rename_i e;have h:=congrArg (λr=>(rwd r).drawn) e;refine Nat.le_trans (aU _ _) (Nat.le_of_eq h)
     ·split;·rw[oe];simp
      ·exact Nat.le_refl _
  ·split;·rw[oG];simp
   ·simp only;rw[jR];generalize a:Sem.runT P _ w #[]=x;have b:w.drawn<=(rwd x.1).drawn:=by rw[<-a];exact bc _ _ _
    clear a;let⟨r,c⟩:=x;cases r with|ok v d=>simp;rw[oG];exact b|halt j d=>cases j<;>exact b
theorem Qr(P:Program)(b:Frame)(cs:List Frame)(c:Option Dying)(g:Nat)(w:World):w.drawn<=(gsw (early P b cs c g w)).drawn:=by
 have a:=aU (P:=P) (choose (.early g)) w;unfold early;simp;split;·split<;>exact Nat.le_refl _
 ·split;·exact Nat.le_refl _
  ·repeat' split
   all_goals first|exact Nat.le_refl _|(simp[*,]at a;exact a)
set_option maxHeartbeats 400000 in
theorem oP(P:Program)(c:Frame)(cs:List Frame)(e:Option Dying)(s:Sem Next)(w:World)(b:Bool):w.drawn<=(gsw (stepG.apply P b c cs e s w)).drawn:=by
 have a:w.drawn<=(rwd (if b=true then s.runT P w #[]else(s.run P w,#[])).1).drawn:=by
  split;·exact bc _ _ _
  ·exact aU _ _
 unfold stepG.apply;generalize(if b=true then s.runT P w #[]else(s.run P w,#[]))=x at a⊢;let⟨r,h⟩:=x;simp only;rw[jR];cases r with
 |ok v f=>simp[]at a;cases v<;>(try simp only)<;>first|exact a|exact zr a a|(split<;>exact a)
 |halt d f=>simp[]at a;cases d<;>(try simp)<;>first|exact a|exact Nat.le_trans a (uJ _ _ _ _ _ _)|(rename_i u;cases u<;>first|exact a|exact Nat.le_trans a (Qr _ _ _ _ _ _))
theorem oper_gsw(P:Program)(c:Frame)(cs:List Frame)(d:Option Dying)(w:World)(b:Bool):w.drawn<=(gsw (stepG.oper P b c cs d w)).drawn:=by
 unfold stepG.oper;split;·exact Nat.le_refl _
 ·split<;>exact oP _ _ _ _ _ _ _
theorem exec_gsw(P:Program)(p:Bool)(d:Frame)(cs:List Frame)(o:Option Dying)(w:World)(q:Bool):w.drawn<=(gsw (stepG.exec P p q d cs o w)).drawn:=by
 have a:∀(b:Option Code),w.drawn<=(gsw ( match d.roundOf with|none=>if b matches none|some .ret then .go {frame:={d with mode:=.returning},callers:=cs,status:=.running,dying:=o} w else .ended (.stuck "exit, goto: no such block or label" (d.pos P)) w|some l=>let(r,j):=(Instr.endRound l b).runT P w #[];GStep.after (seen P d.fn j)<|match r with|.ok v w=>doReturn P p d cs o v w|.halt _ w=>.ended (.stuck "range over a function: no such loop" (d.pos P)) w)).drawn:=by
  intro b;split;·refine zr (Nat.le_refl _) (Nat.le_refl _)
  ·simp only;rw[jR];rename_i l _;have c:=bc (P:=P) (Instr.endRound l b) w #[];generalize Sem.runT P (Instr.endRound l b) w #[]=x at c⊢;let⟨r,j⟩:=x;cases r with|ok v h=>simp;rw[oG];exact c|halt n h=>exact c
 unfold stepG.exec;simp only;split;·have :=a none;grind
 ·have :=a (some .ret);grind
 ·exact Nat.le_refl _
 ·exact Nat.le_refl _
 ·exact Nat.le_refl _
 ·exact Nat.le_refl _
 ·exact Nat.le_refl _
 ·split<;>exact Nat.le_refl _
 ·exact Nat.le_refl _
 ·exact Nat.le_refl _
 ·exact Nat.le_refl _
 ·exact Nat.le_refl _
 ·rename_i i k _;cases exitTo i k with|none=>have :=a (some (.exit i));grind|some _=>exact Nat.le_refl _
 ·rename_i i k _;cases gotoIn i k with|none=>have :=a (some (.goto i));grind|some _=>exact Nat.le_refl _
 ·rw[jR];generalize f:Sem.runT P _ w #[]=x;have c:w.drawn<=(rwd x.1).drawn:=by rw[<-f];exact bc _ _ _
  clear f;let⟨r,j⟩:=x;cases r with|ok v h=>exact Nat.le_trans c (oP _ _ _ _ _ _ _)|halt n h=>exact c
 ·exact Nat.le_refl _
 ·exact oP _ _ _ _ _ _ _
 ·rw[jR];generalize f:Sem.runT P _ w #[]=x;have c:w.drawn<=(rwd x.1).drawn:=by rw[<-f];exact bc _ _ _
  clear f;let⟨r,j⟩:=x;cases r with|ok v h=>exact c|halt n h=>cases n<;>exact c
 ·exact Nat.le_refl _
 ·exact oP _ _ _ _ _ _ _
 ·rename_i m args _ _;cases Extern.next m with|none=>exact Nat.le_refl _|some e=>exact oP _ _ _ _ _ _ _
 ·refine zr (Nat.le_refl _) ?_;generalize f:Sem.run P _ w=x;have c:w.drawn<=(rwd x).drawn:=by rw[<-f];exact aU _ _
  cases x<;>exact c
 ·exact Nat.le_refl _
 ·exact zr (oper_gsw _ _ _ _ _ _) (Nat.le_refl _)
theorem Tx(P:Program)(b:Bool)(g:Goroutine)(w:World)(a:Bool):w.drawn<=(gsw (stepG P b g w a)).drawn:=by
 unfold stepG;let⟨e,cs,st,f,c⟩:=g;simp;split;·exact die_gsw _ _ _ _
 ·exact exec_gsw _ _ _ _ _ _ _
 ·exact Ny _ _ _ _ _ _
def StLe(n:Nat):Stepped->Prop|.next m=>n<=m.world.drawn|_=>True
theorem TZ(P:Program)(gs:Array Goroutine)(a:Rest)(w:World):StLe w.drawn (look P gs a w):=by
 unfold look;split
 ·simp;split;·trivial
  ·split;·trivial
   ·generalize b:Sem.run P _ w=x;have c:w.drawn<=(rwd x).drawn:=by rw[<-b];exact aU _ _
    clear b;cases x with|ok v e=>exact c|halt d e=>cases d<;>trivial
 ·trivial
theorem EA{b:Rest}{a:Array CommCase}{w c:World}(h:waitingAt b a w=some c):c.drawn=w.drawn:=by unfold waitingAt at h;grind
theorem AC(P:Program)(f:Rest)(gs:Array Goroutine)(i:Nat)(g:Goroutine)(d:Array CommCase)(b:Bool)(n:CommShape)(w:World):StLe w.drawn (communicate P f gs i g d b n w).1:=by
 unfold communicate;simp;split;·trivial
 ·split
  ·split
   ·split;·rename_i h;exact Nat.le_of_eq (EA h).symm
    ·trivial
   ·exact Nat.le_refl _
  ·generalize l:Sem.run P _ w=x;have a:w.drawn<=(rwd x).drawn:=by rw[<-l];exact aU _ _
   clear l;cases x with|halt q m=>trivial|ok v m=>
    let⟨k,c,o⟩:=v;simp[]at a⊢;split
    ·split;·rename_i e;have j:=congrArg (λr=>(rwd r).drawn) e;exact Nat.le_trans a (Nat.le_trans (aU _ _) (Nat.le_of_eq j))
     ·trivial
    ·exact a
    ·exact a
    ·split;·exact a
     ·split;·rename_i e;have j:=congrArg (λr=>(rwd r).drawn) e;exact Nat.le_trans a (Nat.le_trans (aU _ _) (Nat.le_of_eq j))
      ·trivial
    ·exact a
    ·exact a
    ·trivial
theorem IR(w:World)(c:Nat):(drain w c).2.drawn=w.drawn:=by unfold drain;grind
theorem FZ(m:Machine)(k:Nat)(t:Timer)(a b:Nat):(retime m k t a b).2.world.drawn=m.world.drawn:=by unfold retime;cases h:t.chan with|none=>rfl|some c=>simp;exact IR m.world c
theorem Ds{m i:Machine}{n:TimerOp}{v:Value}(h:timerOp m n=.ok (v,i)):i.world.drawn=m.world.drawn:=by
 have d:∀(l m:Machine)(c:Addr)(a b:Timer->Nat),timerOp.named l c (λk t=>retime m k t (a t) (b t))=.ok (v,i)->i.world.drawn=m.world.drawn:=by
  intro l m c a b h;unfold timerOp.named at h;split at h;·simp[]at h;have :=congrArg (λx=>x.2.world.drawn) h;simp  at this;rw[<-this];exact FZ _ _ _ _ _
  grind
 cases n with
 |new t=>
  simp[timerOp]at h;split at h;·cases h;rfl
  grind|stop c=>exact d m m c (λ_=>0) (λt=>t.period) h|reset c f e=>
  simp[timerOp]at h;split at h;·rename_i p r;rw[d m p c (λ_=>f) (λ_=>e) h];unfold timerOp.opened at r;grind
  grind|deadline q o j f=>simp only[timerOp]at h;cases h;rfl
theorem serve_st(P:Program)(m:Machine)(k:Nat):StLe m.world.drawn (serve P m k):=by
 unfold serve;split;·trivial
 ·exact Nat.le_refl _
 ·simp;split;·trivial
  ·exact Nat.le_refl _
theorem runT_st(P:Program)(m:Machine)(i:Nat)(p:Bool):StLe m.world.drawn (runT P m i p).1:=by
 unfold runT;simp;generalize l:stepG P _ _ _ _=s;have a:m.world.drawn<=(gsw s).drawn:=by rw[<-l];exact Tx _ _ _ _ _
 clear l;cases s with
 |ended=>trivial|comm g d b k w h=>simp[gsw]at a;have f:=AC P m.rest (m.gs.swapAt! i {(default:Goroutine)with status:=.finished}).2 i g d b k w;simp;generalize communicate P m.rest (m.gs.swapAt! i {(default:Goroutine)with status:=.finished}).2 i g d b k w=x at f⊢;let⟨r,n⟩:=x;simp  at f⊢;cases r with|next o=>exact Nat.le_trans a f|ended=>trivial
 |go g w h=>exact a|spawn=>exact a|count g w h=>
  simp;split;·trivial
  ·exact a|timer g t w h=>
  simp[gsw]at a;simp;split;·rename_i e;have :=Ds e;show m.world.drawn<=_;grind
  ·split;·rename_i e;cases e;exact a
   ·trivial
  ·trivial
  ·trivial|alone=>exact a|newcoro=>exact a|coroswitch g c q w h=>
  simp[gsw]at a;simp;split;·exact a
  ·split;·rename_i e;cases e;exact a
   ·trivial
  ·trivial|collect g w h=>simp[gsw]at a;simp;have f:=TZ P ((m.gs.swapAt! i {(default:Goroutine)with status:=.finished}).2.setIfInBounds i g) m.rest w;generalize look P ((m.gs.swapAt! i {(default:Goroutine)with status:=.finished}).2.setIfInBounds i g) m.rest w=r at f⊢;cases r with|next o=>exact Nat.le_trans a f|ended=>trivial
 |watch=>exact a
def MvLe(n:Nat):Move->Prop|.goroutine m _=>n<=m.world.drawn|.machine s _=>StLe n s
theorem StLe.mono{n k:Nat}{s:Stepped}(h:StLe k s)(a:n<=k):StLe n s:=by cases s with|next m=>exact Nat.le_trans a h|ended=>trivial
theorem MvLe.mono{n k:Nat}{s:Move}(h:MvLe k s)(a:n<=k):MvLe n s:=by cases s with|goroutine m i=>exact Nat.le_trans a h|machine s b=>exact StLe.mono h a
theorem CD(P:Program)(m:Machine):MvLe m.world.drawn (askOn P m):=by
 have c:∀(m:Machine)(rs:List Nat),MvLe m.world.drawn ( match(choose (.sched rs.length)).run P m.world with|.halt _ w=>.machine (.ended (.stuck "sched" "") w)|.ok k world=>if rs.length<=1 then .goroutine {m with world} (rs.getD k 0)else match(choose (.extern "sched.slice" 65536)).run P world with|.halt _ w=>.machine (.ended (.stuck "sched.slice" "") w)|.ok n world=>.goroutine {m with world,rest:={m.rest with slice:=if n=0 then none else some (rs.getD k 0,n)}} (rs.getD k 0)):=by intro m rs;have a:=aU (P:=P) (choose (.sched rs.length)) m.world;generalize Sem.run P (choose (.sched rs.length)) m.world=x at a⊢;cases x with|halt f w=>trivial|ok k w=>
   simp[]at a⊢;split;·exact a
   ·have d:=aU (P:=P) (choose (.extern "sched.slice" 65536)) w;generalize Sem.run P (choose (.extern "sched.slice" 65536)) w=x at d⊢;cases x with|halt f w=>trivial|ok k w=>exact Nat.le_trans a d
 unfold askOn;simp;generalize g:Sem.run P _ m.world=x;have a:m.world.drawn<=(rwd x).drawn:=by rw[<-g];exact aU _ _
 clear g;cases x with|halt f e=>trivial|ok k e=>
  simp[]at a⊢;split;·exact StLe.mono (serve_st P {m with world:=e} _) a
  ·split
   ·split;·exact a
    ·split;·exact a
     ·split<;>trivial
   ·split;·exact MvLe.mono (c {m with world:=e} _) a
    ·rename_i t _;have d:=aU (P:=P) (choose (.extern "clock.wait" (t-m.world.os.mono+1))) e;generalize Sem.run P (choose (.extern "clock.wait" (t-m.world.os.mono+1))) e=x at d⊢;cases x with|halt f w=>trivial|ok k h=>simp[rwd]at d;match k with|0=>exact MvLe.mono (c {m with world:=h} _) (Nat.le_trans a d)|1=>exact Nat.le_trans a d|k+2=>exact MvLe.mono (c ({m with world:=h}.advanceTo (t-(k+1))) _) (Nat.le_trans a d)
theorem ask_mv(P:Program)(m:Machine):MvLe m.world.drawn (Go.ask P m):=by
 unfold Go.ask;split;·have a:=aU (P:=P) (choose (.extern "collector.look" 2)) m.world;generalize Sem.run P (choose (.extern "collector.look" 2)) m.world=x at a⊢;cases x with|halt d w=>trivial|ok k w=>
   simp[rwd]at a;skip;split;·grind
   ·rename_i e;cases e;have c:=TZ P m.gs m.rest w;split;·rename_i e;rw[e]at c;exact MvLe.mono (CD P _) (Nat.le_trans a c)
    ·exact StLe.mono c a
   ·rename_i e;cases e;exact MvLe.mono (CD P _) a
 ·exact CD P m
theorem move_mv(P:Program)(m:Machine):MvLe m.world.drawn (move P m):=by
 unfold move;split
 ·split;·exact Nat.le_refl _
  ·trivial
 ·split
  ·split;·exact Nat.le_refl _
   ·exact ask_mv P {m with rest:={m.rest with slice:=none}}
  ·exact ask_mv P m
theorem step_st(P:Program)(m:Machine):StLe m.world.drawn (step P m):=by unfold step stepT;have h:=move_mv P m;generalize move P m=mv at h⊢;cases mv with|goroutine b i=>exact StLe.mono (runT_st P b i true) h|machine s c=>exact h
theorem Jr{P:Program}{m c:Machine}(h:Steps P m c):m.world.drawn<=c.world.drawn:=by obtain⟨n,a⟩:=h;induction n generalizing m with|zero=>simp[runN,]at a;grind|succ n d=>
  have b:=step_st P m;simp[runN]at a;split at a;·rename_i f e;rw[e]at b;exact Nat.le_trans b (d a)
  grind
theorem JX{P:Program}{f:FuncId}{args:Array Value}{w:World}{R:Ending->World->Prop}(h:Calls P f args w R)(d:∀e a,R e a->∃v,e=.returned v):Calls P f args w λe a=>R e a/\w.drawn<=a.drawn:=by intro cs;let⟨e,a,g,b,c,i⟩:=h cs;obtain⟨v,rfl⟩:=d e a b;exact⟨_,a,g,⟨b,Jr c⟩,c,i⟩
end Ab
