import Derived.Calls
namespace Ab
open Go
def rwd {α : Type} : Result α → World
 | .ok _ w => w
 | .halt _ w => w
theorem ask_drawn {α : Type} : ∀ (k : Ask α) (w : World), w.drawn ≤ (w.ask k).2.drawn
 | .done a, w => Nat.le_refl _
 | .ask what range k, w => by
  unfold World.ask
  simp only
  split
  ·exact ask_drawn _ _
  ·exact Nat.le_trans (Nat.le_succ _) (ask_drawn (k _) { w with drawn := w.drawn + 1 })
theorem sys_drawn (w : World) (c : Sys) : w.drawn ≤ (w.sys c).2.drawn := by
 have h := ask_drawn (Kernel.perform c w.os) w
 unfold World.sys
 split
 ·exact Nat.le_refl _
 ·rename_i r os w' hh e
  rw [e] at h
  exact h
theorem farStore_drawn {P : Program} {w w' : World} {a : Addr} {v : Value} {b : Bool} {l : List Addr} (h : w.farStore P a v b = .ok (w', l)) : w'.drawn = w.drawn := by
 unfold World.farStore at h
 split at h
 ·split at h
  ·rename_i r hr
   cases h
   unfold World.viewStore at hr
   simp only [bind, Except.bind, pure, Except.pure] at hr
   repeat' split at hr
   all_goals first | cases hr; rfl | cases hr
  ·cases h
 ·cases h
theorem freeze_drawn (w : World) (a : Addr) (n : Nat) : (w.freeze a n).drawn = w.drawn := by unfold World.freeze; split <;> rfl
theorem run_drawn {P : Program} {α : Type} : ∀ (s : Sem α) (w : World), w.drawn ≤ (rwd (s.run P w)).drawn
 | .pure a, w => Nat.le_refl _
 | .load m a k, w => by
  simp only [Sem.run]
  split
  ·exact run_drawn _ _
  ·split
   ·exact run_drawn _ _
   ·exact Nat.le_refl _
 | .new o k, w => run_drawn (k w.heap.size) { w with heap := w.heap.push o }
 | .shape r k, w => run_drawn (k _) w
 | .frozen a k, w => run_drawn (k _) w
 | .getObj r k, w => by
  simp only [Sem.run]
  split
  ·exact Nat.le_refl _
  ·exact run_drawn _ _
  ·exact Nat.le_refl _
 | .setObj r o k, w => by
  simp only [Sem.run]
  split
  ·exact Nat.le_refl _
  ·exact run_drawn k { w with heap := w.heap.setIfInBounds r o }
  ·exact Nat.le_refl _
 | .choose q k, w => by
  simp only [Sem.run]
  split
  ·exact run_drawn _ _
  ·exact Nat.le_trans (Nat.le_succ _) (run_drawn (k _) { w with drawn := w.drawn + 1 })
 | .sys c k, w => Nat.le_trans (sys_drawn w c) (run_drawn (k _) _)
 | .program k, w => run_drawn (k _) w
 | .mark m k, w => run_drawn k w
 | .halt hh, w => Nat.le_refl _
 | .freeze a n k, w => by
  have h1 := run_drawn (P := P) k (w.freeze a n)
  rw [freeze_drawn] at h1
  exact h1
 | .store m a v k, w => by
  have key : w.drawn ≤ (rwd (match w.cell? a with
    | some _ => if w.frozen? a then Result.halt (.unsupported (.unsafePointer "a write to bytes that a string shares")) w else k.run P (w.setCell a v)
    | none => match w.farStore P a v (m == Mode.atomic) with
     | .ok (w, _) => k.run P w
     | .error h => .halt h w)).drawn := by
   split
   ·split
    ·exact Nat.le_refl _
    ·exact run_drawn k (w.setCell a v)
   ·split
    ·rename_i hw
     exact Nat.le_trans (Nat.le_of_eq (farStore_drawn hw).symm) (run_drawn k _)
    ·exact Nat.le_refl _
  cases v with
  | agg xs => exact Nat.le_refl _
  | tuple xs => exact Nat.le_refl _
  | _ => simp only [Sem.run]; exact key
theorem runT_drawn {P : Program} {α : Type} : ∀ (s : Sem α) (w : World) (es : Array Event), w.drawn ≤ (rwd (s.runT P w es).1).drawn
 | .pure a, w, es => Nat.le_refl _
 | .load m a k, w, es => by
  simp only [Sem.runT]
  split
  ·exact runT_drawn _ _ _
  ·split
   ·exact runT_drawn _ _ _
   ·exact Nat.le_refl _
 | .new o k, w, es => runT_drawn (k w.heap.size) { w with heap := w.heap.push o } _
 | .shape r k, w, es => runT_drawn (k _) w _
 | .frozen a k, w, es => runT_drawn (k _) w _
 | .getObj r k, w, es => by
  simp only [Sem.runT]
  split
  ·exact Nat.le_refl _
  ·exact runT_drawn _ _ _
  ·exact Nat.le_refl _
 | .setObj r o k, w, es => by
  simp only [Sem.runT]
  split
  ·exact Nat.le_refl _
  ·exact runT_drawn k { w with heap := w.heap.setIfInBounds r o } _
  ·exact Nat.le_refl _
 | .choose q k, w, es => by
  simp only [Sem.runT]
  split
  ·exact runT_drawn _ _ _
  ·exact Nat.le_trans (Nat.le_succ _) (runT_drawn (k _) { w with drawn := w.drawn + 1 } _)
 | .sys c k, w, es => Nat.le_trans (sys_drawn w c) (runT_drawn (k _) _ _)
 | .program k, w, es => runT_drawn (k _) w _
 | .mark m k, w, es => runT_drawn k w _
 | .halt hh, w, es => Nat.le_refl _
 | .freeze a n k, w, es => by
  have h1 := runT_drawn (P := P) k (w.freeze a n) es
  rw [freeze_drawn] at h1
  exact h1
 | .store m a v k, w, es => by
  have key : w.drawn ≤ (rwd (match w.cell? a with
    | some _ => if w.frozen? a then (Result.halt (.unsupported (.unsafePointer "a write to bytes that a string shares")) w, es) else k.runT P (w.setCell a v) (es.push ⟨.cell a, true, m == Mode.atomic⟩)
    | none => match w.farStore P a v (m == Mode.atomic) with
     | .ok (w, touched) => k.runT P w (es ++ touched.toArray.map fun a => (⟨.cell a, true, m == Mode.atomic⟩ : Event))
     | .error h => (.halt h w, es)).1).drawn := by
   split
   ·split
    ·exact Nat.le_refl _
    ·exact runT_drawn k (w.setCell a v) _
   ·split
    ·rename_i hw
     exact Nat.le_trans (Nat.le_of_eq (farStore_drawn hw).symm) (runT_drawn k _ _)
    ·exact Nat.le_refl _
  cases v with
  | agg xs => exact Nat.le_refl _
  | tuple xs => exact Nat.le_refl _
  | _ => simp only [Sem.runT]; exact key
def gsw : GStep → World
 | .go _ w _ | .comm _ _ _ _ w _ | .spawn _ _ w _ | .count _ w _ | .timer _ _ w _ | .alone _ _ w _ | .newcoro _ _ _ w _ | .coroswitch _ _ _ w _ | .collect _ w _ | .watch _ w _ | .ended _ w _ => w
theorem after_gsw (es : Array Event) (s : GStep) : gsw (s.after es) = gsw s := by cases s <;> rfl
theorem ite_gsw {n : Nat} {c : Bool} {a b : GStep} (ha : n ≤ (gsw a).drawn) (hb : n ≤ (gsw b).drawn) : n ≤ (gsw (if c = true then a else b)).drawn := by cases c <;> assumption
theorem endWith_gsw (w : World) (fd : Nat) (t : ByteArray) (o : Outcome) : w.drawn ≤ (gsw (endWith w fd t o)).drawn := by
 have h := sys_drawn w (.write fd t)
 unfold endWith
 simp only
 split <;> rename_i e <;> rw [e] at h
 ·split <;> exact h
 ·exact h
 ·exact h
theorem endPrinting_gsw (P : Program) (fr : Frame) (v : Value) (w : World) : gsw (endPrinting P fr v w) = w := by
 unfold endPrinting
 simp only
 split <;> rfl
theorem endFatal_gsw (P : Program) (fr : Frame) (cs : List Frame) (d : Option Dying) (m : String) (w : World) : w.drawn ≤ (gsw (endFatal P fr cs d m w)).drawn := by
 unfold endFatal
 simp only
 split
 all_goals
  rename_i e
  have h := congrArg (fun r => (rwd r).drawn) e
  refine Nat.le_trans (run_drawn _ _) (Nat.le_of_eq h)
theorem doReturn_gsw (P : Program) (mn : Bool) (fr : Frame) (cs : List Frame) (d : Option Dying) (v : Value) (w : World) : gsw (doReturn P mn fr cs d v w) = w := by
 unfold doReturn
 repeat' split
 all_goals rfl
theorem writeOn_gsw (P : Program) (fr : Frame) (d : Dying) (f : Fatal) (w : World) : w.drawn ≤ (gsw (writeOn P fr d f w)).drawn := by
 unfold writeOn
 simp only
 split
 ·exact Nat.le_refl _
 ·split
  all_goals
   rename_i e
   have h := congrArg (fun r => (rwd r.1).drawn) e
   refine Nat.le_trans (runT_drawn _ _ _) (Nat.le_of_eq h)
theorem die_gsw (P : Program) (fr : Frame) (d : Dying) (w : World) : w.drawn ≤ (gsw (die P fr d w)).drawn := by
 unfold die
 split
 ·exact writeOn_gsw _ _ _ _ _
 ·split
  ·split
   ·exact Nat.le_refl _
   ·exact endWith_gsw _ _ _ _
  ·simp only
   split
   ·exact Nat.le_refl _
   ·split
    all_goals
     rename_i e
     have h := congrArg (fun r => (rwd r).drawn) e
     refine Nat.le_trans (run_drawn _ _) (Nat.le_of_eq h)
   ·rw [after_gsw]
    generalize hx : Sem.runT P _ w #[] = x
    have h0 : w.drawn ≤ (rwd x.1).drawn := by rw [← hx]; exact runT_drawn _ _ _
    clear hx
    obtain ⟨r, es⟩ := x
    cases r with
    | ok v w' =>
     simp only [rwd] at h0
     cases v <;> (try simp only) <;> first | exact h0 | exact Nat.le_refl _ | (rename_i x; cases x <;> first | exact h0 | exact Nat.le_refl _)
    | halt hh w' =>
     simp only [rwd] at h0
     cases hh <;> (try simp only) <;> first | exact h0 | exact Nat.le_refl _ | (rw [endPrinting_gsw]; exact h0)
   ·exact Nat.le_refl _
theorem callDeferred_gsw (P : Program) (fr : Frame) (cs : List Frame) (dy : Option Dying) (d : Deferred) (w : World) : w.drawn ≤ (gsw (callDeferred P fr cs dy d w)).drawn := by
 unfold callDeferred
 refine ite_gsw (Nat.le_refl _) ?_
 ·simp only
  rw [after_gsw]
  generalize hx : Sem.runT P _ w #[] = x
  have h0 : w.drawn ≤ (rwd x.1).drawn := by rw [← hx]; exact runT_drawn _ _ _
  clear hx
  obtain ⟨r, es⟩ := x
  cases r with
  | ok v w' =>
   simp only [rwd] at h0
   cases v <;> (try simp only) <;> first | exact h0 | (split <;> exact h0) | (rename_i x; cases x <;> exact h0) | (rename_i x _; cases x <;> exact h0)
  | halt hh w' =>
   simp only [rwd] at h0
   cases hh <;> simp only <;> first | exact h0 | exact Nat.le_trans h0 (endFatal_gsw _ _ _ _ _ _)
theorem unwind_gsw (P : Program) (mn : Bool) (fr : Frame) (cs : List Frame) (dy : Option Dying) (w : World) : w.drawn ≤ (gsw (unwind P mn fr cs dy w)).drawn := by
 unfold unwind
 split
 ·simp only
  rw [after_gsw]
  generalize hx : Sem.runT P _ w #[] = x
  have h0 : w.drawn ≤ (rwd x.1).drawn := by rw [← hx]; exact runT_drawn _ _ _
  clear hx
  obtain ⟨r, es⟩ := x
  cases r <;> exact h0
 ·exact callDeferred_gsw _ _ _ _ _ _
 ·split
  ·exact Nat.le_refl _
  ·split
   ·exact Nat.le_refl _
   ·split
    ·exact Nat.le_refl _
    ·split
     ·split
      ·exact Nat.le_refl _
      ·split
       all_goals
        rename_i e
        have h := congrArg (fun r => (rwd r).drawn) e
        refine Nat.le_trans (run_drawn _ _) (Nat.le_of_eq h)
     ·split
      ·rw [endPrinting_gsw]; exact Nat.le_refl _
      ·exact Nat.le_refl _
  ·split
   ·rw [doReturn_gsw]; exact Nat.le_refl _
   ·simp only
    rw [after_gsw]
    generalize hx : Sem.runT P _ w #[] = x
    have h0 : w.drawn ≤ (rwd x.1).drawn := by rw [← hx]; exact runT_drawn _ _ _
    clear hx
    obtain ⟨r, es⟩ := x
    cases r with
    | ok v w' => simp only; rw [doReturn_gsw]; exact h0
    | halt hh w' => cases hh <;> exact h0
theorem early_gsw (P : Program) (fr : Frame) (cs : List Frame) (dy : Option Dying) (g : Nat) (w : World) : w.drawn ≤ (gsw (early P fr cs dy g w)).drawn := by
 have h0 := run_drawn (P := P) (choose (.early g)) w
 unfold early
 simp only
 split
 ·split <;> exact Nat.le_refl _
 ·split
  ·exact Nat.le_refl _
  ·repeat' split
   all_goals first | exact Nat.le_refl _ | (simp only [*, rwd] at h0; exact h0)
set_option maxHeartbeats 400000 in
theorem apply_gsw (P : Program) (fr : Frame) (cs : List Frame) (dy : Option Dying) (s : Sem Next) (w : World) (li : Bool) : w.drawn ≤ (gsw (stepG.apply P li fr cs dy s w)).drawn := by
 have h0 : w.drawn ≤ (rwd (if li = true then s.runT P w #[] else (s.run P w, #[])).1).drawn := by
  split
  ·exact runT_drawn _ _ _
  ·exact run_drawn _ _
 unfold stepG.apply
 generalize (if li = true then s.runT P w #[] else (s.run P w, #[])) = x at h0 ⊢
 obtain ⟨r, es⟩ := x
 simp only
 rw [after_gsw]
 cases r with
 | ok v w' =>
  simp only [rwd] at h0
  cases v <;> (try simp only) <;> first | exact h0 | exact ite_gsw h0 h0 | (split <;> exact h0)
 | halt hh w' =>
  simp only [rwd] at h0
  cases hh <;> (try simp only) <;> first | exact h0 | exact Nat.le_trans h0 (endFatal_gsw _ _ _ _ _ _) | (rename_i u; cases u <;> first | exact h0 | exact Nat.le_trans h0 (early_gsw _ _ _ _ _ _))
theorem oper_gsw (P : Program) (fr : Frame) (cs : List Frame) (dy : Option Dying) (w : World) (li : Bool) : w.drawn ≤ (gsw (stepG.oper P li fr cs dy w)).drawn := by
 unfold stepG.oper
 split
 ·exact Nat.le_refl _
 ·split <;> exact apply_gsw _ _ _ _ _ _ _
theorem exec_gsw (P : Program) (mn : Bool) (fr : Frame) (cs : List Frame) (dy : Option Dying) (w : World) (li : Bool) : w.drawn ≤ (gsw (stepG.exec P mn li fr cs dy w)).drawn := by
 have leave : ∀ (jump : Option Code), w.drawn ≤ (gsw (
   match fr.roundOf with
   | none => if jump matches none | some .ret then .go { frame := { fr with mode := .returning }, callers := cs, status := .running, dying := dy } w else .ended (.stuck "exit, goto: no such block or label" (fr.pos P)) w
   | some l =>
    let (r, es) := (Instr.endRound l jump).runT P w #[]
    GStep.after (seen P fr.fn es) <| match r with
    | .ok v w => doReturn P mn fr cs dy v w
    | .halt _ w => .ended (.stuck "range over a function: no such loop" (fr.pos P)) w)).drawn := by
  intro jump
  split
  ·refine ite_gsw (Nat.le_refl _) (Nat.le_refl _)
  ·simp only
   rw [after_gsw]
   rename_i l _
   have h0 := runT_drawn (P := P) (Instr.endRound l jump) w #[]
   generalize Sem.runT P (Instr.endRound l jump) w #[] = x at h0 ⊢
   obtain ⟨r, es⟩ := x
   cases r with
   | ok v w' => simp only; rw [doReturn_gsw]; exact h0
   | halt hh w' => exact h0
 unfold stepG.exec
 simp only
 split
 ·have := leave none; simp only at this; exact this
 ·have := leave (some .ret); simp only at this; exact this
 ·exact Nat.le_refl _
 ·exact Nat.le_refl _
 ·exact Nat.le_refl _
 ·exact Nat.le_refl _
 ·exact Nat.le_refl _
 ·split <;> exact Nat.le_refl _
 ·exact Nat.le_refl _
 ·exact Nat.le_refl _
 ·exact Nat.le_refl _
 ·exact Nat.le_refl _
 ·rename_i id k _
  cases exitTo id k with
  | none => have := leave (some (.exit id)); simp only at this; exact this
  | some _ => exact Nat.le_refl _
 ·rename_i id k _
  cases gotoIn id k with
  | none => have := leave (some (.goto id)); simp only at this; exact this
  | some _ => exact Nat.le_refl _
 ·rw [after_gsw]
  generalize hx : Sem.runT P _ w #[] = x
  have h0 : w.drawn ≤ (rwd x.1).drawn := by rw [← hx]; exact runT_drawn _ _ _
  clear hx
  obtain ⟨r, es⟩ := x
  cases r with
  | ok v w' => exact Nat.le_trans h0 (apply_gsw _ _ _ _ _ _ _)
  | halt hh w' => exact h0
 ·exact Nat.le_refl _
 ·exact apply_gsw _ _ _ _ _ _ _
 ·rw [after_gsw]
  generalize hx : Sem.runT P _ w #[] = x
  have h0 : w.drawn ≤ (rwd x.1).drawn := by rw [← hx]; exact runT_drawn _ _ _
  clear hx
  obtain ⟨r, es⟩ := x
  cases r with
  | ok v w' => exact h0
  | halt hh w' => cases hh <;> exact h0
 ·exact Nat.le_refl _
 ·exact apply_gsw _ _ _ _ _ _ _
 ·rename_i row args _ _
  cases Extern.next row with
  | none => exact Nat.le_refl _
  | some e => exact apply_gsw _ _ _ _ _ _ _
 ·refine ite_gsw (Nat.le_refl _) ?_
  generalize hx : Sem.run P _ w = x
  have h0 : w.drawn ≤ (rwd x).drawn := by rw [← hx]; exact run_drawn _ _
  cases x <;> exact h0
 ·exact Nat.le_refl _
 ·exact ite_gsw (oper_gsw _ _ _ _ _ _) (Nat.le_refl _)
theorem stepG_gsw (P : Program) (mn : Bool) (g : Goroutine) (w : World) (li : Bool) : w.drawn ≤ (gsw (stepG P mn g w li)).drawn := by
 unfold stepG
 obtain ⟨fr, cs, st, dy, of⟩ := g
 simp only
 split
 ·exact die_gsw _ _ _ _
 ·exact exec_gsw _ _ _ _ _ _ _
 ·exact unwind_gsw _ _ _ _ _ _
def StLe (n : Nat) : Stepped → Prop
 | .next m => n ≤ m.world.drawn
 | _ => True
theorem look_st (P : Program) (gs : Array Goroutine) (rest : Rest) (w : World) : StLe w.drawn (look P gs rest w) := by
 unfold look
 split
 ·simp only
  split
  ·trivial
  ·split
   ·trivial
   ·generalize hx : Sem.run P _ w = x
    have h0 : w.drawn ≤ (rwd x).drawn := by rw [← hx]; exact run_drawn _ _
    clear hx
    cases x with
    | ok v w' => exact h0
    | halt hh w' => cases hh <;> trivial
 ·trivial
theorem waitingAt_st {rest : Rest} {cases : Array CommCase} {w w' : World} (h : waitingAt rest cases w = some w') : w'.drawn = w.drawn := by
 unfold waitingAt at h
 split at h
 ·split at h
  ·cases h; rfl
  ·cases h
 ·cases h; rfl
theorem communicate_st (P : Program) (rest : Rest) (gs : Array Goroutine) (i : Nat) (g : Goroutine) (cases : Array CommCase) (b : Bool) (sh : CommShape) (w : World) : StLe w.drawn (communicate P rest gs i g cases b sh w).1 := by
 unfold communicate
 simp only
 split
 ·trivial
 ·split
  ·split
   ·split
    ·rename_i h
     exact Nat.le_of_eq (waitingAt_st h).symm
    ·trivial
   ·exact Nat.le_refl _
  ·generalize hx : Sem.run P _ w = x
   have h0 : w.drawn ≤ (rwd x).drawn := by rw [← hx]; exact run_drawn _ _
   clear hx
   cases x with
   | halt hh w' => trivial
   | ok v w' =>
    obtain ⟨k, c, way⟩ := v
    simp only [rwd] at h0 ⊢
    split
    ·split
     ·rename_i e
      have h1 := congrArg (fun r => (rwd r).drawn) e
      exact Nat.le_trans h0 (Nat.le_trans (run_drawn _ _) (Nat.le_of_eq h1))
     ·trivial
    ·exact h0
    ·exact h0
    ·split
     ·exact h0
     ·split
      ·rename_i e
       have h1 := congrArg (fun r => (rwd r).drawn) e
       exact Nat.le_trans h0 (Nat.le_trans (run_drawn _ _) (Nat.le_of_eq h1))
      ·trivial
    ·exact h0
    ·exact h0
    ·trivial
theorem drain_drawn (w : World) (c : Nat) : (drain w c).2.drawn = w.drawn := by
 unfold drain
 split <;> rfl
theorem retime_drawn (m : Machine) (k : Nat) (t : Timer) (a b : Nat) : (retime m k t a b).2.world.drawn = m.world.drawn := by
 unfold retime
 cases h : t.chan with
 | none => rfl
 | some c =>
  simp only
  exact drain_drawn m.world c
theorem timerOp_drawn {m m' : Machine} {op : TimerOp} {v : Value} (h : timerOp m op = .ok (v, m')) : m'.world.drawn = m.world.drawn := by
 have named : ∀ (m0 m : Machine) (var : Addr) (a b : Timer → Nat) , timerOp.named m0 var (fun k t => retime m k t (a t) (b t)) = .ok (v, m') → m'.world.drawn = m.world.drawn := by
  intro m0 m var a b h
  unfold timerOp.named at h
  split at h
  ·simp only [Except.ok.injEq] at h
   have := congrArg (fun x => x.2.world.drawn) h
   simp only at this
   rw [← this]
   exact retime_drawn _ _ _ _ _
  ·cases h
 cases op with
 | new t =>
  simp only [timerOp] at h
  split at h
  ·cases h; rfl
  ·split at h
   ·split at h
    ·cases h
    ·cases h; rfl
   ·cases h
 | stop var => exact named m m var (fun _ => 0) (fun t => t.period) h
 | reset var when period =>
  simp only [timerOp] at h
  split at h
  ·rename_i m1 hm
   rw [named m m1 var (fun _ => when) (fun _ => period) h]
   unfold timerOp.opened at hm
   split at hm
   ·split at hm
    ·cases hm; rfl
    ·cases hm
   ·cases hm; rfl
  ·cases h
 | deadline ctx read write when => simp only [timerOp] at h; cases h; rfl
theorem serve_st (P : Program) (m : Machine) (k : Nat) : StLe m.world.drawn (serve P m k) := by
 unfold serve
 split
 ·trivial
 ·exact Nat.le_refl _
 ·simp only
  split
  ·trivial
  ·exact Nat.le_refl _
theorem runT_st (P : Program) (m : Machine) (i : Nat) (li : Bool) : StLe m.world.drawn (runT P m i li).1 := by
 unfold runT
 simp only
 generalize hs : stepG P _ _ _ _ = s
 have h0 : m.world.drawn ≤ (gsw s).drawn := by rw [← hs]; exact stepG_gsw _ _ _ _ _
 clear hs
 cases s with
 | ended => trivial
 | comm g cases b sh w es =>
  simp only [gsw] at h0
  have h1 := communicate_st P m.rest (m.gs.swapAt! i { (default : Goroutine) with status := .finished }).2 i g cases b sh w
  simp only
  generalize communicate P m.rest (m.gs.swapAt! i { (default : Goroutine) with status := .finished }).2 i g cases b sh w = x at h1 ⊢
  obtain ⟨r, more⟩ := x
  simp only at h1 ⊢
  cases r with
  | next m' => exact Nat.le_trans h0 h1
  | ended => trivial
 | go g w es => exact h0
 | spawn => exact h0
 | count g w es =>
  simp only
  split
  ·trivial
  ·exact h0
 | timer g op w es =>
  simp only [gsw] at h0
  simp only
  split
  ·rename_i e
   have := timerOp_drawn e
   show m.world.drawn ≤ _
   exact Nat.le_trans h0 (Nat.le_of_eq this.symm)
  ·split
   ·rename_i e
    cases e
    exact h0
   ·trivial
  ·trivial
  ·trivial
 | alone => exact h0
 | newcoro => exact h0
 | coroswitch g c ex w es =>
  simp only [gsw] at h0
  simp only
  split
  ·exact h0
  ·split
   ·rename_i e
    cases e
    exact h0
   ·trivial
  ·trivial
 | collect g w es =>
  simp only [gsw] at h0
  simp only
  have h1 := look_st P ((m.gs.swapAt! i { (default : Goroutine) with status := .finished }).2.setIfInBounds i g) m.rest w
  generalize look P ((m.gs.swapAt! i { (default : Goroutine) with status := .finished }).2.setIfInBounds i g) m.rest w = r at h1 ⊢
  cases r with
  | next m' => exact Nat.le_trans h0 h1
  | ended => trivial
 | watch => exact h0
def MvLe (n : Nat) : Move → Prop
 | .goroutine m _ => n ≤ m.world.drawn
 | .machine s _ => StLe n s
theorem StLe.mono {n k : Nat} {s : Stepped} (h : StLe k s) (hn : n ≤ k) : StLe n s := by
 cases s with
 | next m => exact Nat.le_trans hn h
 | ended => trivial
theorem MvLe.mono {n k : Nat} {s : Move} (h : MvLe k s) (hn : n ≤ k) : MvLe n s := by
 cases s with
 | goroutine m i => exact Nat.le_trans hn h
 | machine s ops => exact StLe.mono h hn
theorem askOn_mv (P : Program) (m : Machine) : MvLe m.world.drawn (askOn P m) := by
 have pick : ∀ (m : Machine) (rs : List Nat), MvLe m.world.drawn (
   match (choose (.sched rs.length)).run P m.world with
   | .halt _ w => .machine (.ended (.stuck "sched" "") w)
   | .ok k world =>
    if rs.length ≤ 1 then .goroutine { m with world } (rs.getD k 0) else
    match (choose (.extern "sched.slice" 65536)).run P world with
    | .halt _ w => .machine (.ended (.stuck "sched.slice" "") w)
    | .ok n world => .goroutine { m with world, rest := { m.rest with slice := if n = 0 then none else some (rs.getD k 0, n) } } (rs.getD k 0)) := by
  intro m rs
  have h0 := run_drawn (P := P) (choose (.sched rs.length)) m.world
  generalize Sem.run P (choose (.sched rs.length)) m.world = x at h0 ⊢
  cases x with
  | halt hh w => trivial
  | ok k w =>
   simp only [rwd] at h0 ⊢
   split
   ·exact h0
   ·have h1 := run_drawn (P := P) (choose (.extern "sched.slice" 65536)) w
    generalize Sem.run P (choose (.extern "sched.slice" 65536)) w = x at h1 ⊢
    cases x with
    | halt hh w => trivial
    | ok k w => exact Nat.le_trans h0 h1
 unfold askOn
 simp only
 generalize hx : Sem.run P _ m.world = x
 have h0 : m.world.drawn ≤ (rwd x).drawn := by rw [← hx]; exact run_drawn _ _
 clear hx
 cases x with
 | halt hh w' => trivial
 | ok k w' =>
  simp only [rwd] at h0 ⊢
  split
  ·exact StLe.mono (serve_st P { m with world := w' } _) h0
  ·split
   ·split
    ·exact h0
    ·split
     ·exact h0
     ·split <;> trivial
   ·split
    ·exact MvLe.mono (pick { m with world := w' } _) h0
    ·rename_i t _
     have h1 := run_drawn (P := P) (choose (.extern "clock.wait" (t - m.world.os.mono + 1))) w'
     generalize Sem.run P (choose (.extern "clock.wait" (t - m.world.os.mono + 1))) w' = x at h1 ⊢
     cases x with
     | halt hh w => trivial
     | ok k w2 =>
      simp only [rwd] at h1
      match k with
      | 0 => exact MvLe.mono (pick { m with world := w2 } _) (Nat.le_trans h0 h1)
      | 1 => exact Nat.le_trans h0 h1
      | k + 2 => exact MvLe.mono (pick ({ m with world := w2 }.advanceTo (t - (k + 1))) _) (Nat.le_trans h0 h1)
theorem ask_mv (P : Program) (m : Machine) : MvLe m.world.drawn (Go.ask P m) := by
 unfold Go.ask
 split
 ·have h0 := run_drawn (P := P) (choose (.extern "collector.look" 2)) m.world
  generalize Sem.run P (choose (.extern "collector.look" 2)) m.world = x at h0 ⊢
  cases x with
  | halt hh w => trivial
  | ok k w =>
   simp only [rwd] at h0
   skip
   split
   ·trivial
   ·rename_i e
    cases e
    have h1 := look_st P m.gs m.rest w
    split
    ·rename_i e
     rw [e] at h1
     exact MvLe.mono (askOn_mv P _) (Nat.le_trans h0 h1)
    ·exact StLe.mono h1 h0
   ·rename_i e
    cases e
    exact MvLe.mono (askOn_mv P _) h0
 ·exact askOn_mv P m
theorem move_mv (P : Program) (m : Machine) : MvLe m.world.drawn (move P m) := by
 unfold move
 split
 ·split
  ·exact Nat.le_refl _
  ·trivial
 ·split
  ·split
   ·exact Nat.le_refl _
   ·exact ask_mv P { m with rest := { m.rest with slice := none } }
  ·exact ask_mv P m
theorem step_st (P : Program) (m : Machine) : StLe m.world.drawn (step P m) := by
 unfold step stepT
 have h := move_mv P m
 generalize move P m = mv at h ⊢
 cases mv with
 | goroutine m' i => exact StLe.mono (runT_st P m' i true) h
 | machine s ops => exact h
theorem steps_drawn {P : Program} {m m' : Machine} (h : Steps P m m') : m.world.drawn ≤ m'.world.drawn := by
 obtain ⟨n, hn⟩ := h
 induction n generalizing m with
 | zero => simp only [runN, Stepped.next.injEq] at hn; subst hn; exact Nat.le_refl _
 | succ n ih =>
  have h0 := step_st P m
  simp only [runN] at hn
  split at hn
  ·rename_i m1 e
   rw [e] at h0
   exact Nat.le_trans h0 (ih hn)
  ·rename_i e
   exact absurd hn (e _)
theorem calls_drawn {P : Program} {f : FuncId} {args : Array Value} {w : World} {R : Ending → World → Prop} (h : Calls P f args w R) (hr : ∀ e w', R e w' → ∃ v, e = .returned v) :
  Calls P f args w fun e w' => R e w' ∧ w.drawn ≤ w'.drawn := by
 intro cs
 obtain ⟨e, w', fr, h1, h2, h3⟩ := h cs
 obtain ⟨v, rfl⟩ := hr e w' h1
 exact ⟨_, w', fr, ⟨h1, steps_drawn h2⟩, h2, h3⟩
end Ab
