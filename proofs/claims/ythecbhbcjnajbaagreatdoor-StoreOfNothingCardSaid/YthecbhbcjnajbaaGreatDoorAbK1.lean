import Derived.Test.YthecbhbcjnajbaaGreatDoorAbY2
namespace Ab
open Go (IntKind BinOp UnOp World Value Addr Obj undef maxLen Program TypeId Oper Op Operand Act Sem Next Result execOp Builtin Calls Ending Exit)
def resVal : List Value → Value
 | [v] => v
 | vs => .tuple vs.toArray
def Enters (P : Program) (f : Nat) : Prop := ∀ us w,(Go.callFunc f us).run P w = .ok (.enter f us) w
def Does (P : Program) (f : Nat) (us : Array Value) (w : World) (R : Value → World → Prop) : Prop :=
 ((Go.callFunc f us).run P w = .ok (.enter f us) w ∧ Calls P f us w fun e w' => ∃ v,e = .returned v ∧ R v w') ∨ ∃ v w',(Go.callFunc f us).run P w = .ok (.value v) w' ∧ R v w'
theorem Does.mono {P : Program} {f : Nat} {us : Array Value} {w : World} {R R' : Value → World → Prop} (h : Does P f us w R) (hr : ∀ v w',R v w' → R' v w') : Does P f us w R' := by
 rcases h with ⟨h1,h2⟩ | ⟨v,w',h1,h2⟩
 ·exact .inl ⟨h1,h2.mono fun e w' ⟨v,e1,e2⟩ => ⟨v,e1,hr v w' e2⟩⟩
 ·exact .inr ⟨v,w',h1,hr v w' h2⟩
structure Run (ν : Nat → Nat) (w : World) (S : Nat → Prop) (μ : Nat → Value) (H : Heap) (w' : World) (S' : Nat → Prop) (μ' : Nat → Value) (H' : Heap) : Prop where
 rel : Rel ν w' S' μ' H'
 ext : Ext w S μ H w' S' μ' H'
theorem Step.run {ν w S μ H w' S' μ' H'} (h : Step ν w S μ H w' S' μ' H') : Run ν w S μ H w' S' μ' H' := ⟨h.rel,h.ext⟩
theorem Run.trans {ν w S μ H w1 S1 μ1 H1 w2 S2 μ2 H2} (a : Run ν w S μ H w1 S1 μ1 H1) (b : Run ν w1 S1 μ1 H1 w2 S2 μ2 H2) : Run ν w S μ H w2 S2 μ2 H2 := ⟨b.rel,a.ext.trans b.ext⟩
theorem Run.refl {ν w S μ H} (h : Rel ν w S μ H) : Run ν w S μ H w S μ H := ⟨h,Ext.refl⟩
def CallOk (Γ : Ctx) (N : Names) (P : Program) (cal : Nat → List AV → Heap → Option (List AV × Heap)) : Prop :=
 ∀ f args H rs H',cal f args H = some (rs,H') → ∀ w S μ us,Rel N.fn w S μ H → GlRel Γ N w S → All2 (fun u x => RelV N.fn w S μ H x u) us args →
  Does P (N.fn f) us.toArray w (fun v w' => ∃ vs S' μ',v = resVal vs ∧ Run N.fn w S μ H w' S' μ' H' ∧ (stillF Γ H.length f = true → Moves μ H μ' H') ∧ All2 (fun u x => RelV N.fn w' S' μ' H' x u) vs rs)
section
variable {Γ : Ctx} {N : Names} {P : Program} {w : World} {S T : Nat → Prop} {μ : Nat → Value} {H : Heap} {σ : Nat → AV} {a : Act}
 {cal : Nat → List AV → Heap → Option (List AV × Heap)}
theorem rel_nil (hT : ∀ g,T g → g < w.heap.size) : Rel N.fn w T (fun _ => undef) [] where
 lt := hT
 blk := by simp
 apart g h := by obtain ⟨id,h1,h2⟩ := h; simp at h2
 inj := by intro i j g h1 h2 h3; simp at h3
theorem All2.map_right {α β γ : Type} {R : α → γ → Prop} {f : β → γ} : ∀ {xs : List α} {ys : List β},All2 (fun x y => R x (f y)) xs ys → All2 R xs (ys.map f)
 | [],[],_ => trivial
 | _ :: _,_ :: _,h => ⟨h.1,h.2.map_right⟩
 | [],_ :: _,h => by cases h
 | _ :: _,[],h => by cases h
theorem All2.append {α β : Type} {R : α → β → Prop} : ∀ {xs xs' : List α} {ys ys' : List β},All2 R xs ys → All2 R xs' ys' → All2 R (xs ++ xs') (ys ++ ys')
 | [],_,[],_,_,h => h
 | _ :: _,_,_ :: _,_,h,h' => ⟨h.1,h.2.append h'⟩
 | [],_,_ :: _,_,h,_ => by cases h
 | _ :: _,_,[],_,h,_ => by cases h
theorem All2.of_get {α β : Type} {R : α → β → Prop} : ∀ {xs : List α} {ys : List β},xs.length = ys.length → (∀ (j : Nat) x y,xs[j]? = some x → ys[j]? = some y → R x y) → All2 R xs ys
 | [],[],_,_ => trivial
 | x :: xs,y :: ys,h,h' => ⟨h' 0 x y rfl rfl,All2.of_get (by simpa using h) fun j a b ha hb => h' (j + 1) a b (by simpa using ha) (by simpa using hb)⟩
 | [],_ :: _,h,_ => by cases h
 | _ :: _,[],h,_ => by cases h
theorem All2.get {α β : Type} {R : α → β → Prop} : ∀ {xs : List α} {ys : List β},All2 R xs ys → xs.length = ys.length ∧ ∀ (j : Nat) x y,xs[j]? = some x → ys[j]? = some y → R x y
 | [],[],_ => ⟨rfl,by simp⟩
 | x :: xs,y :: ys,h => by
  obtain ⟨h1,h2⟩ := h.2.get
  refine ⟨by simp [h1],fun j a b ha hb => ?_⟩
  cases j with
  | zero => simp only [List.getElem?_cons_zero,Option.some.injEq] at ha hb; subst ha hb; exact h.1
  | succ j => exact h2 j a b (by simpa using ha) (by simpa using hb)
 | [],_ :: _,h => by cases h
 | _ :: _,[],h => by cases h
theorem reify_all {d : Nat} {R : Value → PV → Prop} : ∀ {vs : List AV} {us : List Value} {ps : List PV},All2 (fun u x => RelV N.fn w S μ H x u) us vs → mapO (reify H d) vs = some ps →
  (∀ v ∈ vs,∀ u p,RelV N.fn w S μ H v u → reify H d v = some p → R u p) → All2 R us ps
 | [],[],ps,_,h,_ => by simp only [mapO,Option.some.injEq] at h; subst h; trivial
 | v :: vs,u :: us,ps,ha,h,hR => by
  simp only [mapO] at h
  split at h
  ·rename_i p hp
   split at h
   ·rename_i qs hqs
    simp only [Option.some.injEq] at h; subst h
    exact ⟨hR v (by simp) u p ha.1 hp,reify_all ha.2 hqs fun x hx => hR x (by simp [hx])⟩
   ·cases h
  ·cases h
 | [],_ :: _,_,h,_,_ => by cases h
 | _ :: _,[],_,h,_,_ => by cases h
theorem pure_call (hcal : CallOk Γ N P cal) (hT : ∀ g,T g → g < w.heap.size) (hgl : GlRel Γ N w T) {f : Nat} {ps rs : List PV} {us : List Value} {r : List AV × Heap}
  (ha : All2 (fun u p => RelP N.fn w T p u) us ps) (hc : cal f (ps.map .p) [] = some r) (hrs : mapO (reify r.2 4) r.1 = some rs) :
  Does P (N.fn f) us.toArray w (fun v w' => ∃ vs,v = resVal vs ∧ Grows w w' ∧
   All2 (fun u p => RelP N.fn w' (fun g => T g ∨ (w.heap.size ≤ g ∧ g < w'.heap.size)) p u) vs rs) := by
 refine (hcal f _ _ r.1 r.2 hc w T (fun _ => undef) us (rel_nil hT) hgl (All2.map_right (ha.imp fun u p h => .p _ _ h))).mono ?_
 rintro e w' ⟨vs,S',μ',rfl,hs,_,hv⟩
 have no : ∀ g,¬ alive (fun _ => undef) [] g := fun g h => by obtain ⟨id,h1,h2⟩ := h; simp at h2
 have hS' : ∀ g,S' g → T g ∨ (w.heap.size ≤ g ∧ g < w'.heap.size) := fun g h => by
  by_cases hg : g < w.heap.size
  ·rcases hs.ext.new g h hg with h | h
   ·exact .inl h
   ·exact absurd h (no g)
  ·exact .inr ⟨by omega,hs.rel.lt g h⟩
 refine ⟨vs,rfl,⟨hs.ext.os,hs.ext.tape,hs.ext.output,hs.ext.size,fun g hg => hs.ext.keep g hg (no g)⟩,?_⟩
 refine reify_all hv hrs fun v _ u p hvu hp => reify_rel hs.rel hS' (fun id b g hb hg => ?_) 4 hvu hp
 by_cases hl : g < w.heap.size
 ·have : S' g := by
   have hbr := hs.rel.blk id b hb
   cases b with
   | box cs => exact absurd (hs.ext.own g ⟨id,hg,.inl ⟨cs,hb⟩⟩ hl) (no g)
   | row f sz xs =>
    cases f with
    | true => obtain ⟨_,_,us,_,_,_,h4⟩ := hbr; exact h4 rfl g hg
    | false => exact absurd (hs.ext.own g ⟨id,hg,.inr ⟨sz,xs,hb⟩⟩ hl) (no g)
   | dead => exact hbr g hg
  exact hS' g this
 ·exact .inr ⟨by omega,hs.rel.blk_lt hb hg⟩
theorem results_rel {S' : Nat → Prop} {μ' : Nat → Value} {H' : Heap} : ∀ {vs : List Value} {rs : List AV},All2 (fun u x => RelV N.fn w S' μ' H' x u) vs rs → RelV N.fn w S' μ' H' (results rs) (resVal vs)
 | [v],[r],h => h.1
 | [],[],_ => .tup [] #[] rfl (by simp)
 | v :: v' :: vs,r :: r' :: rs,h => by
  have := h.get
  refine .tup _ _ (by simpa using this.1) fun j c hc => ?_
  obtain ⟨h1,h2⟩ := this
  have hl : j < (v :: v' :: vs).length := by rw [h1]; exact (List.getElem?_eq_some_iff.1 hc).1
  have := h2 j _ c (List.getElem?_eq_getElem hl) hc
  simpa [Array.getD_eq_getD_getElem?,List.getElem?_eq_getElem hl] using this
 | [],_ :: _,h => by cases h
 | _ :: _,[],h => by cases h
 | [_],_ :: _ :: _,h => by cases h.2
 | _ :: _ :: _,[_],h => by cases h.2
theorem callee_rel {fv : AV} {u : Value} {fc : Nat × List AV} (h : RelV N.fn w S μ H fv u) (hc : callee fv = some fc) :
  ∃ us : Array Value,u = .func (.func (N.fn fc.1)) #[] us ∧ All2 (fun u x => RelV N.fn w S μ H x u) us.toList fc.2 := by
 unfold callee at hc
 split at hc
 ·rename_i f cs
  simp only [Option.some.injEq] at hc; subst hc
  cases h with
  | p _ _ h =>
   cases h with
   | clo _ _ us h1 h2 h3 =>
    refine ⟨us,rfl,All2.map_right (.of_get (by simpa using h1) fun j x y hx hy => .p _ _ ?_)⟩
    have := h3 j y hy
    rwa [getD_array,List.getD_eq_getElem?_getD,hx] at this
 ·rename_i f cs
  simp only [Option.some.injEq] at hc; subst hc
  cases h with
  | clo _ _ us h1 h2 h3 =>
   refine ⟨us,rfl,.of_get (by simpa using h1) fun j x y hx hy => ?_⟩
   have := h3 j y hy
   rwa [getD_array,List.getD_eq_getElem?_getD,hx] at this
 ·cases hc
theorem exec_call {o : Oper} {f' : Operand} {xs : List Operand} {Ts : List TypeId} {g : Nat} {us : Array Value} (h : callOp o = some (.value f',xs,Ts)) (hf : a.eval f' = .func (.func g) #[] us) :
  (execOp a.eval o).run P w = (Go.callFunc g (xs.map a.eval ++ us.toList).toArray).run P w := by
 unfold callOp at h
 split at h
 ·rename_i c hc
  simp only [Option.some.injEq,Prod.mk.injEq] at h
  obtain ⟨h1,h2,h3⟩ := h
  have e2 : c.args.map a.eval = (xs.map a.eval).toArray := by rw [← h2,← Array.toList_map]
  have e3 : ((xs.map a.eval).toArray ++ us) = (xs.map a.eval ++ us.toList).toArray := by simp
  simp only [execOp,hc,Go.resolve,h1,Go.Deferred.ofValue,hf,Go.Sem.run_bind,Go.Sem.run_pure,Go.Result.andThen_ok,Go.invoke,e2,Array.empty_append,e3]
 ·cases h
def CDone (N : Names) (P : Program) (w : World) (S : Nat → Prop) (μ : Nat → Value) (H : Heap) (o : Oper) (a : Act) (v : AV) (H' : Heap) : Prop :=
 ∃ f us,(execOp a.eval o).run P w = (Go.callFunc f us).run P w ∧ Does P f us w fun u w' => ∃ S' μ',Step N.fn w S μ H w' S' μ' H' ∧ RelV N.fn w' S' μ' H' v u
theorem Env.Rel.glrel (he : Env.Rel Γ N w S μ H σ a) : GlRel Γ N w S := he.gl
theorem GlRel.more (h : GlRel Γ N w S) (hT : ∀ g,S g → T g) : GlRel Γ N w T := ⟨fun n cs hn => (h.rel n cs hn).more hT,h.whole,fun n hn => ⟨hT _ (h.ints n hn).1,(h.ints n hn).2⟩⟩
theorem allP_spec : ∀ {l : List AV},allP l = true → ∀ v ∈ l,∃ p,v = .p p
 | [],_ => by simp
 | v :: l,h => by
  cases v <;> simp only [allP,Bool.false_eq_true] at h
  rename_i p
  intro x hx
  rcases List.mem_cons.1 hx with rfl | hx
  ·exact ⟨p,rfl⟩
  ·exact allP_spec h x hx
theorem callee_p {fv : AV} {fc : Nat × List AV} (hp : fv.isP = true) (hc : callee fv = some fc) : ∀ v ∈ fc.2,∃ p,v = .p p := by
 unfold callee at hc
 split at hc
 ·simp only [Option.some.injEq] at hc; subst hc
  intro v hv
  obtain ⟨x,_,rfl⟩ := List.mem_map.1 hv
  exact ⟨x,rfl⟩
 ·cases hp
 ·cases hc
theorem call_sound (hcal : CallOk Γ N P cal) {o : Oper} {f : Arg} {args : List Arg} {v : AV} (hc : chkQ P N o (.call f args) = true) (he : Env.Rel Γ N w S μ H σ a) (hr : Rel N.fn w S μ H)
  (hv : evQ Γ cal σ H (.call f args) = some v) : CDone N P w S μ H o a v H := by
 simp only [chkQ] at hc
 split at hc
 rotate_left
 ·cases hc
 rename_i f' xs' Ts hy
 simp only [Bool.and_eq_true] at hc
 have hf := he.arg hc.1
 have ha := he.args hc.2
 simp only [evQ,callP,Option.bind_eq_some_iff] at hv
 obtain ⟨rs,⟨fc,hfc,ps,hps,r,hcr,hrs⟩,hv⟩ := hv
 simp only [ifB] at hv
 split at hv
 rotate_left
 ·cases hv
 rename_i hB
 simp only [Option.some.injEq] at hv; subst hv
 obtain ⟨caps,hcl,hcaps⟩ := callee_rel hf hfc
 have hall := ha.append hcaps
 by_cases hA : (allP (args.map (Arg.ev Γ σ)) && (f.ev Γ σ).isP) = true
 ·simp only [Bool.and_eq_true] at hA
  have hall' : All2 (fun u p => RelP N.fn w S p u) (xs'.map a.eval ++ caps.toList) ps := reify_all hall hps fun v hv u p hvu hp => by
   have : ∃ q,v = .p q := by
    rcases List.mem_append.1 hv with h | h
    ·exact allP_spec hA.1 v h
    ·exact callee_p hA.2 hfc v h
   obtain ⟨q,rfl⟩ := this
   simp only [reify,Option.some.injEq] at hp; subst hp
   exact hvu.p_inv
  have h2 := pure_call hcal hr.lt he.glrel hall' hcr hrs
  refine ⟨_,_,exec_call hy hcl,h2.mono ?_⟩
  rintro e w' ⟨vs,rfl,hg,hvs⟩
  refine ⟨_,μ,.grow hr hg (fun g h => .inl h) (fun g h => ?_) (fun g h => ?_),results_rel (All2.map_right (hvs.imp fun u p h => .p _ _ h))⟩
  ·rcases h with h | h
   ·exact Nat.lt_of_lt_of_le (hr.lt g h) hg.size
   ·exact h.2
  ·rcases h with h | h
   ·exact .inl h
   ·exact .inr h.1
 ·have hfl : rs.all flat = true := by
   rcases Bool.or_eq_true_iff.1 hB with h | h
   ·exact absurd h hA
   ·exact h
  have hall' : All2 (fun u p => RelP N.fn w (fun g => g < w.heap.size) p u) (xs'.map a.eval ++ caps.toList) ps := reify_all hall hps fun v hv u p hvu hp =>
   reify_rel hr hr.lt (fun id b g hb hg => hr.blk_lt hb hg) 4 hvu hp
  have h2 := pure_call hcal (fun g h => h) (he.glrel.more hr.lt) hall' hcr hrs
  refine ⟨_,_,exec_call hy hcl,h2.mono ?_⟩
  rintro e w' ⟨vs,rfl,hg,hvs⟩
  refine ⟨S,μ,.grow hr hg (fun g h => h) (fun g h => Nat.lt_of_lt_of_le (hr.lt g h) hg.size) (fun g h => .inl h),results_rel (All2.map_right ?_)⟩
  have := hvs.get
  refine .of_get this.1 fun j u p hu hp => .p _ _ (flat_rel (List.all_eq_true.1 hfl p (List.mem_of_getElem? hp)) (this.2 j u p hu hp))
theorem callr_sound (hcal : CallOk Γ N P cal) {o : Oper} {f : Arg} {args : List Arg} {v : AV} (hc : chkQ P N o (.callr f args) = true) (he : Env.Rel Γ N w S μ H σ a) (hr : Rel N.fn w S μ H)
  (hv : evQ Γ cal σ H (.callr f args) = some v) : CDone N P w S μ H o a v H := by
 simp only [chkQ] at hc
 split at hc
 rotate_left
 ·cases hc
 rename_i f' xs' Ts hy
 simp only [Bool.and_eq_true] at hc
 have hf := he.arg hc.1
 have ha := he.args hc.2
 simp only [evQ,callRA,Option.bind_eq_some_iff,Option.map_eq_some_iff,ifB_some] at hv
 obtain ⟨rs,⟨fc,hfc,ps,hps,r,hcr,hfr,hrs⟩,rfl⟩ := hv
 obtain ⟨caps,hcl,hcaps⟩ := callee_rel hf hfc
 have hall := ha.append hcaps
 have hall' : All2 (fun u p => RelP N.fn w (fun g => g < w.heap.size) p u) (xs'.map a.eval ++ caps.toList) ps := reify_all hall hps fun v hv u p hvu hp =>
  reify_rel hr hr.lt (fun id b g hb hg => hr.blk_lt hb hg) 4 hvu hp
 have hlt : ∀ g,(fun g => g < w.heap.size) g → g < w.heap.size := fun g h => h
 have h2 := hcal fc.1 _ _ r.1 r.2 hcr w (fun g => g < w.heap.size) (fun _ => undef) _ (rel_nil hlt) (he.glrel.more hr.lt) (All2.map_right (hall'.imp fun u p h => .p _ _ h))
 refine ⟨_,_,exec_call hy hcl,h2.mono ?_⟩
 rintro e w' ⟨vs,S',μ',rfl,hs,_,hv⟩
 have no : ∀ g,¬ alive (fun _ => undef) [] g := fun g h => by obtain ⟨id,h1,h2⟩ := h; simp at h2
 have hg : Grows w w' := ⟨hs.ext.os,hs.ext.tape,hs.ext.output,hs.ext.size,fun g hg => hs.ext.keep g hg (no g)⟩
 refine ⟨fun g => S g ∨ (w.heap.size ≤ g ∧ g < w'.heap.size),μ,.grow hr hg (fun g h => .inl h) (fun g h => ?_) (fun g h => ?_),results_rel (All2.map_right ?_)⟩
 ·rcases h with h | h
  ·exact Nat.lt_of_lt_of_le (hr.lt g h) hg.size
  ·exact h.2
 ·rcases h with h | h
  ·exact .inl h
  ·exact .inr h.1
 ·have hfin : All2 (fun u p => RelP N.fn w' (fun g => S g ∨ (w.heap.size ≤ g ∧ g < w'.heap.size)) p u) vs rs := reify_all hv hrs fun v hvm u p hvu hp => frR_rel hs.rel (fun id sz xs g hb hgk => by
   refine .inr ⟨?_,hs.rel.blk_lt hb hgk⟩
   rcases Nat.lt_or_ge g w.heap.size with hl | hl
   ·exact absurd (hs.ext.own g ⟨id,hgk,.inr ⟨sz,xs,hb⟩⟩ hl) (no g)
   ·exact hl) (List.all_eq_true.1 hfr v hvm) hvu hp
  exact hfin.imp fun u p h => .p _ _ h
theorem rowsOnly_spec : ∀ {l : List AV},rowsOnly l = true → ∀ v ∈ l,(∃ p,v = .p p) ∨ ∃ id n,v = .own id n
 | [],_ => by simp
 | v :: l,h => by
  cases v <;> simp only [rowsOnly,Bool.false_eq_true] at h
  ·rename_i p
   intro x hx
   rcases List.mem_cons.1 hx with rfl | hx
   ·exact .inl ⟨p,rfl⟩
   ·exact rowsOnly_spec h x hx
  ·rename_i id n
   intro x hx
   rcases List.mem_cons.1 hx with rfl | hx
   ·exact .inr ⟨id,n,rfl⟩
   ·exact rowsOnly_spec h x hx
theorem callf_sound (hcal : CallOk Γ N P cal) {o : Oper} {f : Arg} {args : List Arg} {v : AV} {H' : Heap} (hc : chkX P N o (.callf f args) = true) (he : Env.Rel Γ N w S μ H σ a) (hr : Rel N.fn w S μ H)
  (hv : evX Γ cal σ H (.callf f args) = some (v,H')) : CDone N P w S μ H o a v H' := by
 simp only [chkX] at hc
 split at hc
 rotate_left
 ·cases hc
 rename_i f' xs' Ts hy
 simp only [Bool.and_eq_true] at hc
 have hf := he.arg hc.1
 have ha := he.args hc.2
 simp only [evX,ifB] at hv
 split at hv
 rotate_left
 ·cases hv
 rename_i hB
 simp only [Bool.and_eq_true] at hB
 simp only [callP,Option.map_eq_some_iff,Option.bind_eq_some_iff,Prod.mk.injEq] at hv
 obtain ⟨rs,⟨fc,hfc,ps,hps,r,hcr,hrs⟩,rfl,rfl⟩ := hv
 obtain ⟨caps,hcl,hcaps⟩ := callee_rel hf hfc
 have hall := ha.append hcaps
 obtain ⟨S',hs,hrow⟩ := step_freeze ((args.map (Arg.ev Γ σ)).flatMap AV.cells) hr
 have own : ∀ {id n u p d},AV.own id n ∈ (args.map (Arg.ev Γ σ)).flatMap AV.cells → RelV N.fn w S μ H (.own id n) u → reify H (d + 1) (.own id n) = some p → RelP N.fn w S' p u := by
  intro id n u p d hm hvu hp
  simp only [reify,Option.map_eq_some_iff] at hp
  obtain ⟨rr,hrr,rfl⟩ := hp
  obtain ⟨fz,hb,hn⟩ := rowOf_spec hrr
  rw [hvu.own_inv hrr]
  obtain ⟨f1,hb1,hf1⟩ := hrow id fz rr.1 rr.2 hb
  have := hf1 (.inl ⟨n,hm⟩)
  subst this
  refine row_relP hr hb hs.ext.more fun g hg => ?_
  obtain ⟨_,_,us,_,_,_,h4⟩ := hs.rel.blk id _ hb1
  exact h4 rfl g hg
 have cell : ∀ {c u p d},c ∈ (args.map (Arg.ev Γ σ)).flatMap AV.cells → RelV N.fn w S μ H c u → reify H (d + 1) c = some p → RelP N.fn w S' p u := by
  intro c u p d hm hvu hp
  rcases rowsOnly_spec hB.1 c hm with ⟨q,rfl⟩ | ⟨id,n,rfl⟩
  ·simp only [reify,Option.some.injEq] at hp; subst hp
   exact hvu.p_inv.more hs.ext.more
  ·exact own hm hvu hp
 have hall' : All2 (fun u p => RelP N.fn w S' p u) (xs'.map a.eval ++ caps.toList) ps := reify_all hall hps fun v hv u p hvu hp => by
  rcases List.mem_append.1 hv with h | h
  ·have sub : ∀ c ∈ v.cells,c ∈ (args.map (Arg.ev Γ σ)).flatMap AV.cells := fun c hc => List.mem_flatMap.2 ⟨v,h,hc⟩
   cases v with
   | p q => simp only [reify,Option.some.injEq] at hp; subst hp; exact hvu.p_inv.more hs.ext.more
   | own id n => exact own (sub _ (by simp [AV.cells])) hvu hp
   | agg cs =>
    rw [show reify H 4 (.agg cs) = (mapO (reify H 3) cs).map .agg from rfl,Option.map_eq_some_iff] at hp
    obtain ⟨qs,hqs,rfl⟩ := hp
    obtain ⟨h1,h2⟩ := mapO_spec hqs
    cases hvu with
    | agg _ us h3 h4 h5 =>
     refine .agg qs us (by rw [h3,h1]) (fun c hc => ?_) (fun j c hc => ?_)
     ·obtain ⟨j,hj⟩ := List.getElem?_of_mem hc
      obtain ⟨x,hx,hx'⟩ := h2 j c hj
      exact reify_one hx' (h4 x (List.mem_of_getElem? hx))
     ·obtain ⟨x,hx,hx'⟩ := h2 j c hc
      exact cell (sub x (List.mem_of_getElem? hx)) (h5 j x hx) hx'
   | bx id off => rcases rowsOnly_spec hB.1 _ (sub (.bx id off) (by simp [AV.cells])) with ⟨_,h⟩ | ⟨_,_,h⟩ <;> cases h
   | el id n i off => rcases rowsOnly_spec hB.1 _ (sub (.el id n i off) (by simp [AV.cells])) with ⟨_,h⟩ | ⟨_,_,h⟩ <;> cases h
   | mp id => simp [reify] at hp
   | clo f cs => rcases rowsOnly_spec hB.1 _ (sub (.clo f cs) (by simp [AV.cells])) with ⟨_,h⟩ | ⟨_,_,h⟩ <;> cases h
   | tup cs => simp [reify] at hp
   | nov => simp [reify] at hp
   | any => simp [reify] at hp
  ·obtain ⟨q,rfl⟩ := callee_p hB.2 hfc v h
   simp only [reify,Option.some.injEq] at hp; subst hp
   exact hvu.p_inv.more hs.ext.more
 have h2 := pure_call hcal hs.rel.lt (he.glrel.more hs.ext.more) hall' hcr hrs
 refine ⟨_,_,exec_call hy hcl,h2.mono ?_⟩
 rintro e w' ⟨vs,rfl,hg,hvs⟩
 refine ⟨_,μ,hs.trans (.grow hs.rel hg (fun g h => .inl h) (fun g h => ?_) (fun g h => ?_)),results_rel (All2.map_right (hvs.imp fun u p h => .p _ _ h))⟩
 ·rcases h with h | h
  ·exact Nat.lt_of_lt_of_le (hs.rel.lt g h) hg.size
  ·exact h.2
 ·rcases h with h | h
  ·exact .inl h
  ·exact .inr h.1
end
end Ab
namespace Ab
open Go (IntKind BinOp UnOp World Value Addr Obj undef maxLen Program TypeId Oper Op Operand Act Sem Next Result execOp Builtin Calls Ending Exit)
theorem place_spec : ∀ {L : List Nat} {id i : Nat},place L id = some i → L[i]? = some id
 | x :: r,id,i,h => by
  simp only [place] at h
  split at h
  ·rename_i e; simp only [Option.some.injEq] at h; subst h; subst e; rfl
  ·obtain ⟨j,hj,rfl⟩ := Option.map_eq_some_iff.1 h
   simpa using place_spec hj
 | [],_,_,h => by cases h
theorem reach_nodup {H : Heap} : ∀ (n : Nat) (todo acc : List Nat),acc.Nodup → (reach H n todo acc).Nodup
 | 0,_,acc,h => by simpa [reach] using h
 | _ + 1,[],acc,h => by simpa [reach] using h
 | n + 1,id :: r,acc,h => by
  unfold reach
  split
  ·exact reach_nodup n r acc h
  ·rename_i hc
   refine reach_nodup n _ _ (List.nodup_append.2 ⟨h,by simp,fun a ha b hb e => ?_⟩)
   simp only [List.mem_singleton] at hb
   subst hb; subst e
   exact hc (by simpa using ha)
section
variable {N : Names} {w : World} {S : Nat → Prop} {μ : Nat → Value} {H H' : Heap} {L : List Nat}
def picked (μ : Nat → Value) (L : List Nat) : Nat → Value := fun i => match L[i]? with | some id => μ id | none => undef
theorem pick_get (hp : Heap.pick H L = some H') {i : Nat} {b' : Blk} (hb : H'[i]? = some b') : ∃ id b,L[i]? = some id ∧ H[id]? = some b ∧ Blk.ren (place L) b = some b' := by
 obtain ⟨_,h⟩ := mapO_spec hp
 obtain ⟨id,h1,h2⟩ := h i b' hb
 obtain ⟨b,h3,h4⟩ := Option.bind_eq_some_iff.1 h2
 exact ⟨id,b,h1,h3,h4⟩
theorem ren_one {r : Nat → Option Nat} {d : Nat} {v v' : AV} (h : AV.ren r d v = some v') (h1 : v.one = true) : v'.one = true := by
 cases v <;> simp only [AV.one,Bool.false_eq_true] at h1
 case p v => cases d <;> (simp only [AV.ren,Option.some.injEq] at h; subst h; exact h1)
 case own => cases d <;> (simp only [AV.ren,Option.map_eq_some_iff] at h; obtain ⟨_,_,rfl⟩ := h; rfl)
 case bx => cases d <;> (simp only [AV.ren,Option.map_eq_some_iff] at h; obtain ⟨_,_,rfl⟩ := h; rfl)
 case el => cases d <;> (simp only [AV.ren,Option.map_eq_some_iff] at h; obtain ⟨_,_,rfl⟩ := h; rfl)
 case mp => cases d <;> (simp only [AV.ren,Option.map_eq_some_iff] at h; obtain ⟨_,_,rfl⟩ := h; rfl)
 case clo f cs =>
  cases d with
  | zero => simp [AV.ren] at h
  | succ d =>
   rw [show AV.ren r (d + 1) (.clo f cs) = (mapO (AV.ren r d) cs).map (.clo f) from rfl,Option.map_eq_some_iff] at h
   obtain ⟨_,_,rfl⟩ := h; rfl
theorem ren_cells {r : Nat → Option Nat} {d : Nat} {μ' : Nat → Value} {cs cs' : List AV} {us : Array Value} (hm : mapO (AV.ren r d) cs = some cs') (h1 : us.size = cs.length) (h3 : ∀ j c,cs[j]? = some c → RelV N.fn w S μ H c (us.getD j undef))
  (ih : ∀ {v v' u},RelV N.fn w S μ H v u → AV.ren r d v = some v' → RelV N.fn w S μ' H' v' u) :
  us.size = cs'.length ∧ ((∀ c ∈ cs,c.one = true) → ∀ c ∈ cs',c.one = true) ∧ ∀ (j : Nat) c,cs'[j]? = some c → RelV N.fn w S μ' H' c (us.getD j undef) := by
 obtain ⟨hl,hg⟩ := mapO_spec hm
 refine ⟨by rw [h1,hl],fun ho c hc => ?_,fun j c hc => ?_⟩
 ·obtain ⟨j,hj⟩ := List.getElem?_of_mem hc
  obtain ⟨x,hx,hx'⟩ := hg j c hj
  exact ren_one hx' (ho x (List.mem_of_getElem? hx))
 ·obtain ⟨x,hx,hx'⟩ := hg j c hc
  exact ih (h3 j x hx) hx'
def Emb (r : Nat → Option Nat) (μ : Nat → Value) (H : Heap) (μ' : Nat → Value) (H' : Heap) : Prop :=
 ∀ id i,id < H.length → r id = some i → i < H'.length ∧ μ' i = μ id ∧ ∀ b',H'[i]? = some b' → ∃ b,H[id]? = some b ∧ Blk.ren r b = some b'
theorem Blk.ren_row_inv {r : Nat → Option Nat} {b : Blk} {f sz xs} (h : Blk.ren r b = some (.row f sz xs)) : b = .row f sz xs := by
 cases b with
 | box cs => simp only [Blk.ren,Option.map_eq_some_iff] at h; obtain ⟨_,_,h⟩ := h; cases h
 | row f' sz' xs' => simp only [Blk.ren,Option.some.injEq] at h; exact h
 | dead => simp [Blk.ren] at h
theorem Blk.ren_box_inv {r : Nat → Option Nat} {b : Blk} {cs'} (h : Blk.ren r b = some (.box cs')) : ∃ cs,b = .box cs ∧ mapO (AV.ren r 3) cs = some cs' := by
 cases b with
 | box cs => simp only [Blk.ren,Option.map_eq_some_iff] at h; obtain ⟨cs2,h2,h⟩ := h; cases h; exact ⟨cs,rfl,h2⟩
 | row f' sz' xs' => simp [Blk.ren] at h
 | dead => simp [Blk.ren] at h
theorem pick_emb (hp : Heap.pick H L = some H') : Emb (place L) μ H (picked μ L) H' := by
 have hlen : H'.length = L.length := (mapO_spec hp).1
 intro id i _ h
 have hi := place_spec h
 refine ⟨by rw [hlen]; exact (List.getElem?_eq_some_iff.1 hi).1,by simp [picked,hi],fun b' hb => ?_⟩
 obtain ⟨id',b,h1,h2,h3⟩ := pick_get hp hb
 rw [hi] at h1; cases h1
 exact ⟨b,h2,h3⟩
theorem ren_rel {r : Nat → Option Nat} {μ' : Nat → Value} (at0 : Emb r μ H μ' H') : ∀ (d : Nat) {v v' : AV} {u : Value},RelV N.fn w S μ H v u → AV.ren r d v = some v' → RelV N.fn w S μ' H' v' u := by
 have at_ : ∀ {id i : Nat},id < H.length → r id = some i → i < H'.length ∧ μ' i = μ id ∧ ∀ b',H'[i]? = some b' → ∃ b,H[id]? = some b ∧ Blk.ren r b = some b' := fun {id i} => at0 id i
 have leaf : ∀ (d : Nat) {v v' : AV} {u : Value},RelV N.fn w S μ H v u → AV.ren r d v = some v' → (∀ cs,v ≠ .agg cs) → (∀ cs,v ≠ .tup cs) → (∀ f cs,v ≠ .clo f cs) → RelV N.fn w S μ' H' v' u := by
  intro d v v' u h hr h1 h2 h3
  cases h with
  | p v u h => cases d <;> (simp only [AV.ren,Option.some.injEq] at hr; subst hr; exact .p _ _ h)
  | own id n u hl h h1 =>
   have hr : (r id).map (AV.own · n) = some v' := by cases d <;> simpa only [AV.ren] using hr
   obtain ⟨i,hi,rfl⟩ := Option.map_eq_some_iff.1 hr
   obtain ⟨a1,a2,a3⟩ := at_ hl hi
   refine .own i n u a1 (fun f sz xs e => ?_) h1
   obtain ⟨b,hb,hb'⟩ := a3 _ e
   rw [Blk.ren_row_inv hb'] at hb
   rw [a2]; exact h f sz xs hb
  | bx id off g u hl h h1 =>
   have hr : (r id).map (AV.bx · off) = some v' := by cases d <;> simpa only [AV.ren] using hr
   obtain ⟨i,hi,rfl⟩ := Option.map_eq_some_iff.1 hr
   obtain ⟨a1,a2,a3⟩ := at_ hl hi
   refine .bx i off g u a1 (fun cs e => ?_) h1
   obtain ⟨b,hb,hb'⟩ := a3 _ e
   obtain ⟨cs',rfl,_⟩ := Blk.ren_box_inv hb'
   rw [a2]; exact h cs' hb
  | el id n i' off u hl h h1 =>
   have hr : (r id).map (AV.el · n i' off) = some v' := by cases d <;> simpa only [AV.ren] using hr
   obtain ⟨i,hi,rfl⟩ := Option.map_eq_some_iff.1 hr
   obtain ⟨a1,a2,a3⟩ := at_ hl hi
   refine .el i n i' off u a1 (fun f sz xs e => ?_) h1
   obtain ⟨b,hb,hb'⟩ := a3 _ e
   rw [Blk.ren_row_inv hb'] at hb
   rw [a2]; exact h f sz xs hb
  | mp id g u hl h h1 =>
   have hr : (r id).map AV.mp = some v' := by cases d <;> simpa only [AV.ren] using hr
   obtain ⟨i,hi,rfl⟩ := Option.map_eq_some_iff.1 hr
   obtain ⟨a1,a2,a3⟩ := at_ hl hi
   refine .mp i g u a1 (fun cs e => ?_) h1
   obtain ⟨b,hb,hb'⟩ := a3 _ e
   obtain ⟨cs',rfl,_⟩ := Blk.ren_box_inv hb'
   rw [a2]; exact h cs' hb
  | nov => cases d <;> (simp only [AV.ren,Option.some.injEq] at hr; subst hr; exact .nov)
  | any u => cases d <;> (simp only [AV.ren,Option.some.injEq] at hr; subst hr; exact .any _)
  | agg cs => exact absurd rfl (h1 cs)
  | tup cs => exact absurd rfl (h2 cs)
  | clo f cs => exact absurd rfl (h3 f cs)
 intro d
 induction d with
 | zero =>
  intro v v' u h hr
  refine leaf 0 h hr ?_ ?_ ?_
  ·rintro cs rfl; simp [AV.ren] at hr
  ·rintro cs rfl; simp [AV.ren] at hr
  ·rintro f cs rfl; simp [AV.ren] at hr
 | succ d ih =>
  intro v v' u h hr
  by_cases ha : ∃ cs,v = .agg cs
  ·obtain ⟨cs,rfl⟩ := ha
   rw [show AV.ren r (d + 1) (.agg cs) = (mapO (AV.ren r d) cs).map .agg from rfl,Option.map_eq_some_iff] at hr
   obtain ⟨cs',hm,rfl⟩ := hr
   cases h with
   | agg _ us h1 h2 h3 =>
    obtain ⟨g1,g2,g3⟩ := ren_cells hm h1 h3 ih
    exact .agg cs' us g1 (g2 h2) g3
  ·by_cases ht : ∃ cs,v = .tup cs
   ·obtain ⟨cs,rfl⟩ := ht
    rw [show AV.ren r (d + 1) (.tup cs) = (mapO (AV.ren r d) cs).map .tup from rfl,Option.map_eq_some_iff] at hr
    obtain ⟨cs',hm,rfl⟩ := hr
    cases h with
    | tup _ us h1 h3 =>
     obtain ⟨g1,g2,g3⟩ := ren_cells hm h1 h3 ih
     exact .tup cs' us g1 g3
   ·by_cases hc : ∃ f cs,v = .clo f cs
    ·obtain ⟨f,cs,rfl⟩ := hc
     rw [show AV.ren r (d + 1) (.clo f cs) = (mapO (AV.ren r d) cs).map (.clo f) from rfl,Option.map_eq_some_iff] at hr
     obtain ⟨cs',hm,rfl⟩ := hr
     cases h with
     | clo _ _ us h1 h2 h3 =>
      obtain ⟨g1,g2,g3⟩ := ren_cells hm h1 h3 ih
      exact .clo f cs' us g1 (g2 h2) g3
    ·exact leaf (d + 1) h hr (fun cs e => ha ⟨cs,e⟩) (fun cs e => ht ⟨cs,e⟩) (fun f cs e => hc ⟨f,cs,e⟩)
theorem ren_ok {r : Nat → Option Nat} {d : Nat} {v v' : AV} (h : AV.ren r d v = some v') (hv : v.ok = true) : v'.ok = true := by
 cases v with
 | p v => cases d <;> simp [AV.ren] at h <;> subst h <;> rfl
 | own id n => cases d <;> simp only [AV.ren,Option.map_eq_some_iff] at h <;> obtain ⟨_,_,rfl⟩ := h <;> rfl
 | bx id n => cases d <;> simp only [AV.ren,Option.map_eq_some_iff] at h <;> obtain ⟨_,_,rfl⟩ := h <;> rfl
 | el id n i o => cases d <;> simp only [AV.ren,Option.map_eq_some_iff] at h <;> obtain ⟨_,_,rfl⟩ := h <;> rfl
 | mp id => cases d <;> simp only [AV.ren,Option.map_eq_some_iff] at h <;> obtain ⟨_,_,rfl⟩ := h <;> rfl
 | agg cs =>
  cases d with
  | zero => simp [AV.ren] at h
  | succ d => simp only [AV.ren,Option.map_eq_some_iff] at h; obtain ⟨_,_,rfl⟩ := h; rfl
 | clo f cs =>
  cases d with
  | zero => simp [AV.ren] at h
  | succ d => simp only [AV.ren,Option.map_eq_some_iff] at h; obtain ⟨_,_,rfl⟩ := h; rfl
 | tup cs => cases hv
 | nov => cases hv
 | any => cases hv
theorem ren_flat {r : Nat → Option Nat} : ∀ {es : List (PV × AV)} {cs' : List AV},mapO (AV.ren r 3) (mapFlat es) = some cs' →
  ∃ es',cs' = mapFlat es' ∧ es'.length = es.length ∧ ∀ (j : Nat) k v,es'[j]? = some (k,v) → ∃ v0,es[j]? = some (k,v0) ∧ AV.ren r 3 v0 = some v
 | [],cs',h => by
  simp only [mapFlat,mapO,Option.some.injEq] at h
  subst h
  exact ⟨[],rfl,rfl,fun j k v hj => by simp at hj⟩
 | (k,v) :: es,cs',h => by
  simp only [mapFlat,mapO,AV.ren] at h
  split at h
  ·rename_i xs hxs
   simp only [Option.some.injEq] at h
   subst h
   split at hxs
   ·rename_i v' hv
    split at hxs
    ·rename_i ys hys
     simp only [Option.some.injEq] at hxs
     subst hxs
     obtain ⟨es',rfl,g1,g2⟩ := ren_flat hys
     refine ⟨(k,v') :: es',rfl,by simp [g1],fun j k1 v1 hj => ?_⟩
     cases j with
     | zero =>
      simp only [List.getElem?_cons_zero,Option.some.injEq,Prod.mk.injEq] at hj
      obtain ⟨rfl,rfl⟩ := hj
      exact ⟨v,rfl,hv⟩
     | succ j => simpa using g2 j k1 v1 (by simpa using hj)
    ·cases hxs
   ·cases hxs
  ·cases h
theorem renMapC {r : Nat → Option Nat} {es : List (PV × AV)} {cs' : List AV} (h : mapO (AV.ren r 3) (mapCells es) = some cs') :
  ∃ es',cs' = mapCells es' ∧ es'.length = es.length ∧ ∀ (j : Nat) k v,es'[j]? = some (k,v) → ∃ v0,es[j]? = some (k,v0) ∧ AV.ren r 3 v0 = some v := by
 unfold mapCells at h
 simp only [mapO,AV.ren] at h
 split at h
 ·rename_i xs hxs
  simp only [Option.some.injEq] at h
  subst h
  split at hxs
  ·rename_i ys hys
   simp only [Option.some.injEq] at hxs
   subst hxs
   obtain ⟨es',rfl,g1,g2⟩ := ren_flat hys
   exact ⟨es',rfl,g1,g2⟩
  ·cases hxs
 ·cases h
theorem blk_ren {r : Nat → Option Nat} {μ' : Nat → Value} (hE : Emb r μ H μ' H') {id i : Nat} {b b' : Blk} (hb : BlkRel N.fn w S μ H id b) (h : Blk.ren r b = some b') (hμ : μ' i = μ id) : BlkRel N.fn w S μ' H' i b' := by
 cases b with
 | box cs =>
  simp only [Blk.ren,Option.map_eq_some_iff] at h
  obtain ⟨cs',hm,rfl⟩ := h
  obtain ⟨g,e1,⟨us,t,e2,e3,e4,e5⟩ | ⟨s,pos,rfl,e2⟩ | ⟨es,arr,clock,rfl,e2,est,e3,e4⟩⟩ := hb
  ·obtain ⟨g1,g2,g3⟩ := ren_cells hm e3 e5 (ren_rel hE 3)
   exact ⟨g,by rw [hμ]; exact e1,.inl ⟨us,t,e2,g1,g2 e4,g3⟩⟩
  ·simp only [iterCells,mapO,AV.ren,Option.some.injEq] at hm
   subst hm
   exact ⟨g,by rw [hμ]; exact e1,.inr (.inl ⟨s,pos,rfl,e2⟩)⟩
  ·obtain ⟨es',rfl,g1,g2⟩ := renMapC hm
   refine ⟨g,by rw [hμ]; exact e1,.inr (.inr ⟨es',arr,clock,rfl,e2,est,by rw [e3,g1],fun j k v hj => ?_⟩)⟩
   obtain ⟨v0,hv0,hr⟩ := g2 j k v hj
   obtain ⟨e,f1,f2,f3,f4⟩ := e4 j k v0 hv0
   exact ⟨e,f1,f2,ren_ok hr f3,ren_rel hE 3 f4 hr⟩
 | row f sz xs =>
  simp only [Blk.ren,Option.some.injEq] at h; subst h
  simp only [BlkRel,hμ]
  exact hb
 | dead =>
  simp only [Blk.ren,Option.some.injEq] at h; subst h
  simp only [BlkRel,hμ]
  exact hb
theorem ren_alive {r : Nat → Option Nat} {b b' : Blk} (h : Blk.ren r b = some b') (ha : isAlive b') : isAlive b := by
 rcases ha with ⟨cs,rfl⟩ | ⟨sz,xs,rfl⟩
 ·obtain ⟨cs',rfl,_⟩ := Blk.ren_box_inv h; exact .inl ⟨_,rfl⟩
 ·rw [Blk.ren_row_inv h]; exact .inr ⟨_,_,rfl⟩
theorem ren_all {r : Nat → Option Nat} {μ' : Nat → Value} (hE : Emb r μ H μ' H') {d : Nat} : ∀ {us : List Value} {vs vs' : List AV},All2 (fun u x => RelV N.fn w S μ H x u) us vs → mapO (AV.ren r d) vs = some vs' → All2 (fun u x => RelV N.fn w S μ' H' x u) us vs'
 | [],[],vs',_,h => by simp only [mapO,Option.some.injEq] at h; subst h; trivial
 | u :: us,v :: vs,vs',ha,h => by
  simp only [mapO] at h
  split at h
  ·rename_i x hx
   split at h
   ·rename_i xs hxs
    simp only [Option.some.injEq] at h; subst h
    exact ⟨ren_rel hE d ha.1 hx,ren_all hE ha.2 hxs⟩
   ·cases h
  ·cases h
 | [],_ :: _,_,h,_ => by cases h
 | _ :: _,[],_,h,_ => by cases h
theorem alive_picked (hp : Heap.pick H L = some H') {i : Nat} {b' : Blk} (hb : H'[i]? = some b') (ha : isAlive b') : ∃ id b,L[i]? = some id ∧ H[id]? = some b ∧ isAlive b ∧ picked μ L i = μ id := by
 obtain ⟨id,b,h1,h2,h3⟩ := pick_get hp hb
 exact ⟨id,b,h1,h2,ren_alive h3 ha,by simp [picked,h1]⟩
theorem nodup_get {L : List Nat} (hL : L.Nodup) {i j x : Nat} (h1 : L[i]? = some x) (h2 : L[j]? = some x) : i = j := by
 obtain ⟨x1,y1⟩ := List.getElem?_eq_some_iff.1 h1
 obtain ⟨x2,y2⟩ := List.getElem?_eq_some_iff.1 h2
 have pw := List.pairwise_iff_getElem.1 hL
 rcases Nat.lt_trichotomy i j with h | h | h
 ·exact absurd (y1.trans y2.symm) (pw i j x1 x2 h)
 ·exact h
 ·exact absurd (y2.trans y1.symm) (pw j i x2 x1 h)
theorem aliveOf {H : Heap} {i : Nat} (h : (∃ cs,H[i]? = some (Blk.box cs)) ∨ ∃ sz xs,H[i]? = some (Blk.row false sz xs)) : ∃ b,H[i]? = some b ∧ isAlive b := by
 rcases h with ⟨cs,h⟩ | ⟨sz,xs,h⟩
 ·exact ⟨_,h,.inl ⟨cs,rfl⟩⟩
 ·exact ⟨_,h,.inr ⟨sz,xs,rfl⟩⟩
theorem run_pick (hr : Rel N.fn w S μ H) (hL : L.Nodup) (hp : Heap.pick H L = some H') : Run N.fn w S μ H w S (picked μ L) H' := by
 have hal : ∀ g,alive (picked μ L) H' g → alive μ H g := fun g h => by
  obtain ⟨i,b',h1,h2,h3⟩ := alive_iff.1 h
  obtain ⟨id,b,_,h5,h6,h7⟩ := alive_picked (μ := μ) hp h1 h2
  exact alive_iff.2 ⟨id,b,h5,h6,by rw [← h7]; exact h3⟩
 refine ⟨⟨hr.lt,fun i b' hb => ?_,fun g h => hr.apart g (hal g h),fun i j g hi hj ai aj => ?_⟩,⟨rfl,rfl,rfl,Nat.le_refl _,fun _ _ _ => rfl,fun _ h => h,fun g h _ => .inl h,fun g h _ => hal g h⟩⟩
 ·obtain ⟨id,b,h1,h2,h3⟩ := pick_get hp hb
  exact blk_ren (pick_emb hp) (hr.blk id b h2) h3 (by simp [picked,h1])
 ·obtain ⟨b1,h1,a1⟩ := aliveOf ai
  obtain ⟨b2,h2,a2⟩ := aliveOf aj
  obtain ⟨id1,c1,l1,k1,al1,m1⟩ := alive_picked (μ := μ) hp h1 a1
  obtain ⟨id2,c2,l2,k2,al2,m2⟩ := alive_picked (μ := μ) hp h2 a2
  have := hr.inj' k1 k2 al1 al2 (by rw [← m1]; exact hi) (by rw [← m2]; exact hj)
  subst this
  exact nodup_get hL l1 l2
theorem step_kill1 (hr : Rel N.fn w S μ H) {id : Nat} {b0 : Blk} (hb : H[id]? = some b0) : Step N.fn w S μ H w (fun g => S g ∨ blkOf (μ id) = some g) μ (H.set id (killB b0)) := by
 have hlt := (List.getElem?_eq_some_iff.1 hb).1
 have get : ∀ (i : Nat) b,(H.set id (killB b0))[i]? = some b → (i = id ∧ b = killB b0) ∨ (i ≠ id ∧ H[i]? = some b) := by
  intro i b h
  simp only [List.getElem?_set,hlt,if_true] at h
  split at h
  ·rename_i e; subst e; simp only [Option.some.injEq] at h; exact .inl ⟨rfl,h.symm⟩
  ·rename_i e; exact .inr ⟨Ne.symm e,h⟩
 have hm : Moves μ H μ (H.set id (killB b0)) := by
  refine ⟨by simp,fun i f' sz' ys hl h => ?_,fun i cs hl h => ?_⟩
  ·rcases get i _ h with ⟨rfl,e⟩ | ⟨_,h⟩
   ·cases b0 with
    | row f sz xs => simp only [killB,Blk.row.injEq] at e; obtain ⟨_,rfl,rfl⟩ := e; exact ⟨f,_,hb,Nat.le_refl _,fun _ => rfl⟩
    | box => cases e
    | dead => cases e
   ·exact ⟨f',ys,h,Nat.le_refl _,fun _ => rfl⟩
  ·rcases get i _ h with ⟨rfl,e⟩ | ⟨_,h⟩
   ·cases b0 <;> cases e
   ·exact ⟨cs,h,rfl⟩
 have nal : ¬ isAlive (killB b0) := by
  rintro (⟨cs,e⟩ | ⟨a,b,e⟩) <;> (cases b0 <;> cases e)
 have al : ∀ (i : Nat) b,(H.set id (killB b0))[i]? = some b → isAlive b → i ≠ id ∧ H[i]? = some b := by
  intro i b h ha
  rcases get i b h with ⟨rfl,rfl⟩ | h
  ·exact absurd ha nal
  ·exact h
 have alg : ∀ g,alive μ (H.set id (killB b0)) g → alive μ H g := by
  intro g ha
  obtain ⟨i,b,h1,h2,h3⟩ := alive_iff.1 ha
  exact alive_iff.2 ⟨i,b,(al i b h1 h2).2,h2,h3⟩
 -- a block that is not alive is stable already
 have cold : ¬ isAlive b0 → ∀ g,blkOf (μ id) = some g → S g := by
  intro hn g hg
  have h := hr.blk id _ hb
  cases b0 with
  | box cs => exact absurd (.inl ⟨cs,rfl⟩) hn
  | dead => exact h g hg
  | row f sz xs =>
   cases f with
   | false => exact absurd (.inr ⟨sz,xs,rfl⟩) hn
   | true => obtain ⟨_,_,us,_,_,_,h5⟩ := h; exact h5 rfl g hg
 refine ⟨⟨fun g h => ?_,fun i b h => ?_,fun g ha hs => ?_,fun i j g hi hj ai aj => ?_⟩,⟨rfl,rfl,rfl,Nat.le_refl _,fun _ _ _ => rfl,fun g h => .inl h,fun g h _ => ?_,fun g h _ => alg g h⟩,hm⟩
 ·rcases h with h | h
  ·exact hr.lt g h
  ·exact hr.blk_lt hb h
 ·have old : ∀ b',H[i]? = some b' → BlkRel N.fn w (fun g => S g ∨ blkOf (μ id) = some g) μ (H.set id (killB b0)) i b' := fun b' hb' => (hr.blk i b' hb').keep (fun _ h => .inl h) (fun _ _ => rfl) hm rfl (fun _ _ => rfl)
  rcases get i b h with ⟨rfl,rfl⟩ | ⟨_,h⟩
  ·have := old _ hb
   cases b0 with
   | row f sz xs =>
    obtain ⟨h0,hl,us,h1,h2,h3,_⟩ := this
    exact ⟨h0,hl,us,h1,h2,h3,fun _ g hg => .inr hg⟩
   | box => exact fun g hg => .inr hg
   | dead => exact fun g hg => .inr hg
  ·exact old b h
 ·rcases hs with hs | hs
  ·exact hr.apart g (alg g ha) hs
  ·obtain ⟨i,b,h1,h2,h3⟩ := alive_iff.1 ha
   obtain ⟨hne,h4⟩ := al i b h1 h2
   by_cases h0 : isAlive b0
   ·exact hne (hr.inj' h4 hb h2 h0 h3 hs)
   ·exact hr.apart g (alg g ha) (cold h0 g hs)
 ·obtain ⟨b1,h1,a1⟩ := aliveOf ai
  obtain ⟨b2,h2,a2⟩ := aliveOf aj
  exact hr.inj' (al i b1 h1 a1).2 (al j b2 h2 a2).2 a1 a2 hi hj
 ·rcases h with h | h
  ·exact .inl h
  ·by_cases h0 : isAlive b0
   ·exact .inr (alive_iff.2 ⟨id,_,hb,h0,h⟩)
   ·exact .inl (cold h0 g h)
theorem step_kill : ∀ (L : List Nat) {S : Nat → Prop} {H : Heap},Rel N.fn w S μ H → ∃ S',Step N.fn w S μ H w S' μ (kill H L) ∧ ∀ id ∈ L,∀ b g,H[id]? = some b → blkOf (μ id) = some g → S' g
 | [],S,H,hr => ⟨S,.refl hr,by simp⟩
 | id :: L,S,H,hr => by
  simp only [kill]
  cases hb : H[id]? with
  | none =>
   obtain ⟨S',h1,h2⟩ := step_kill L hr
   refine ⟨S',h1,fun i hi b g hb' hg => ?_⟩
   rcases List.mem_cons.1 hi with rfl | hi
   ·rw [hb] at hb'; cases hb'
   ·exact h2 i hi b g hb' hg
  | some b0 =>
   have hs := step_kill1 hr hb
   obtain ⟨S',h1,h2⟩ := step_kill L hs.rel
   refine ⟨S',hs.trans h1,fun i hi b g hb' hg => ?_⟩
   by_cases he : i = id
   ·subst he; exact h1.ext.more g (.inr hg)
   ·rcases List.mem_cons.1 hi with rfl | hi
    ·exact absurd rfl he
    ·exact h2 i hi b g (by rw [List.getElem?_set_ne (Ne.symm he)]; exact hb') hg
theorem trees_sound (hr : Rel N.fn w S μ H) {vs : List AV} {us : List Value} {ps : List PV} (hq : treesOf H vs = some (ps,H')) (ha : All2 (fun u x => RelV N.fn w S μ H x u) us vs) :
  ∃ S',Step N.fn w S μ H w S' μ H' ∧ All2 (fun u p => RelP N.fn w S' p u) us ps := by
 unfold treesOf at hq
 obtain ⟨vs',h1,hq⟩ := Option.bind_eq_some_iff.1 hq
 obtain ⟨HL,h2,hq⟩ := Option.bind_eq_some_iff.1 hq
 obtain ⟨ps',h3,hq⟩ := Option.map_eq_some_iff.1 hq
 simp only [Prod.mk.injEq] at hq
 obtain ⟨rfl,rfl⟩ := hq
 have hL := reach_nodup (H := H) 64 (vs.flatMap AV.refs) [] (by simp)
 obtain ⟨S',g1,g2⟩ := step_kill (reach H 64 (vs.flatMap AV.refs) []) hr
 have hrun := run_pick hr hL h2
 refine ⟨S',g1,reify_all (ren_all (pick_emb h2) ha h1) h3 fun v _ u p hvu hp => reify_rel hrun.rel g1.ext.more (fun i b g hb hg => ?_) 4 hvu hp⟩
 obtain ⟨id,b0,k1,k2,k3⟩ := pick_get h2 hb
 exact g2 id (List.mem_of_getElem? k1) b0 g k2 (by simpa [picked,k1] using hg)
end
end Ab
