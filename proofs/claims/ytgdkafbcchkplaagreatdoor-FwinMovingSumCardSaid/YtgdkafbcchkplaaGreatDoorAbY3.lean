/- Calls. -/
import Derived.Test.YtgdkafbcchkplaaGreatDoorAbY2
namespace Ab
open Go (IntKind BinOp UnOp World Value Addr Obj undef maxLen Program TypeId Oper Op Operand Act Sem Next Result execOp Builtin Calls Ending Exit)

/-- What a function hands back. -/
def resVal : List Value → Value
  | [v] => v
  | vs => .tuple vs.toArray


def Enters (P : Program) (f : Nat) : Prop := ∀ us w, (Go.callFunc f us).run P w = .ok (.enter f us) w

/-- A call hands back a value: by the function's own code, or by the model's row for it. -/
def Does (P : Program) (f : Nat) (us : Array Value) (w : World) (R : Value → World → Prop) : Prop :=
  ((Go.callFunc f us).run P w = .ok (.enter f us) w ∧ Calls P f us w fun e w' => ∃ v, e = .returned v ∧ R v w') ∨ ∃ v w', (Go.callFunc f us).run P w = .ok (.value v) w' ∧ R v w'
theorem Does.mono {P : Program} {f : Nat} {us : Array Value} {w : World} {R R' : Value → World → Prop} (h : Does P f us w R) (hr : ∀ v w', R v w' → R' v w') : Does P f us w R' := by
  rcases h with ⟨h1, h2⟩ | ⟨v, w', h1, h2⟩
  · exact .inl ⟨h1, h2.mono fun e w' ⟨v, e1, e2⟩ => ⟨v, e1, hr v w' e2⟩⟩
  · exact .inr ⟨v, w', h1, hr v w' h2⟩

/-- What is left when blocks have new numbers. -/
structure Run (ν : Nat → Nat) (w : World) (S : Nat → Prop) (μ : Nat → Value) (H : Heap) (w' : World) (S' : Nat → Prop) (μ' : Nat → Value) (H' : Heap) : Prop where
  rel : Rel ν w' S' μ' H'
  ext : Ext w S μ H w' S' μ' H'
theorem Step.run {ν w S μ H w' S' μ' H'} (h : Step ν w S μ H w' S' μ' H') : Run ν w S μ H w' S' μ' H' := ⟨h.rel, h.ext⟩
theorem Run.trans {ν w S μ H w1 S1 μ1 H1 w2 S2 μ2 H2} (a : Run ν w S μ H w1 S1 μ1 H1) (b : Run ν w1 S1 μ1 H1 w2 S2 μ2 H2) : Run ν w S μ H w2 S2 μ2 H2 := ⟨b.rel, a.ext.trans b.ext⟩
theorem Run.refl {ν w S μ H} (h : Rel ν w S μ H) : Run ν w S μ H w S μ H := ⟨h, Ext.refl⟩

/-- What is known of calls: what the abstract machine answers, the model answers. -/
def CallOk (Γ : Ctx) (N : Names) (P : Program) (cal : Nat → List AV → Heap → Option (List AV × Heap)) : Prop :=
  ∀ f args H rs H', cal f args H = some (rs, H') → ∀ w S μ us, Rel N.fn w S μ H → GlRel Γ N w S → All2 (fun u x => RelV N.fn w S μ H x u) us args →
    Does P (N.fn f) us.toArray w (fun v w' => ∃ vs S' μ', v = resVal vs ∧ Run N.fn w S μ H w' S' μ' H' ∧ All2 (fun u x => RelV N.fn w' S' μ' H' x u) vs rs)

section
variable {Γ : Ctx} {N : Names} {P : Program} {w : World} {S T : Nat → Prop} {μ : Nat → Value} {H : Heap} {σ : Nat → AV} {a : Act}
  {cal : Nat → List AV → Heap → Option (List AV × Heap)}

theorem rel_nil (hT : ∀ g, T g → g < w.heap.size) : Rel N.fn w T (fun _ => undef) [] where
  lt := hT
  blk := by simp
  apart g h := by obtain ⟨id, h1, h2⟩ := h; simp at h2
  inj := by intro i j g h1 h2 h3; simp at h3

theorem All2.map_right {α β γ : Type} {R : α → γ → Prop} {f : β → γ} : ∀ {xs : List α} {ys : List β}, All2 (fun x y => R x (f y)) xs ys → All2 R xs (ys.map f)
  | [], [], _ => trivial
  | _ :: _, _ :: _, h => ⟨h.1, h.2.map_right⟩
  | [], _ :: _, h => by cases h
  | _ :: _, [], h => by cases h
theorem All2.append {α β : Type} {R : α → β → Prop} : ∀ {xs xs' : List α} {ys ys' : List β}, All2 R xs ys → All2 R xs' ys' → All2 R (xs ++ xs') (ys ++ ys')
  | [], _, [], _, _, h => h
  | _ :: _, _, _ :: _, _, h, h' => ⟨h.1, h.2.append h'⟩
  | [], _, _ :: _, _, h, _ => by cases h
  | _ :: _, _, [], _, h, _ => by cases h
theorem All2.of_get {α β : Type} {R : α → β → Prop} : ∀ {xs : List α} {ys : List β}, xs.length = ys.length → (∀ (j : Nat) x y, xs[j]? = some x → ys[j]? = some y → R x y) → All2 R xs ys
  | [], [], _, _ => trivial
  | x :: xs, y :: ys, h, h' => ⟨h' 0 x y rfl rfl, All2.of_get (by simpa using h) fun j a b ha hb => h' (j + 1) a b (by simpa using ha) (by simpa using hb)⟩
  | [], _ :: _, h, _ => by cases h
  | _ :: _, [], h, _ => by cases h
theorem All2.get {α β : Type} {R : α → β → Prop} : ∀ {xs : List α} {ys : List β}, All2 R xs ys → xs.length = ys.length ∧ ∀ (j : Nat) x y, xs[j]? = some x → ys[j]? = some y → R x y
  | [], [], _ => ⟨rfl, by simp⟩
  | x :: xs, y :: ys, h => by
    obtain ⟨h1, h2⟩ := h.2.get
    refine ⟨by simp [h1], fun j a b ha hb => ?_⟩
    cases j with
    | zero => simp only [List.getElem?_cons_zero, Option.some.injEq] at ha hb; subst ha hb; exact h.1
    | succ j => exact h2 j a b (by simpa using ha) (by simpa using hb)
  | [], _ :: _, h => by cases h
  | _ :: _, [], h => by cases h

theorem reify_all {d : Nat} {R : Value → PV → Prop} : ∀ {vs : List AV} {us : List Value} {ps : List PV}, All2 (fun u x => RelV N.fn w S μ H x u) us vs → mapO (reify H d) vs = some ps →
    (∀ v ∈ vs, ∀ u p, RelV N.fn w S μ H v u → reify H d v = some p → R u p) → All2 R us ps
  | [], [], ps, _, h, _ => by simp only [mapO, Option.some.injEq] at h; subst h; trivial
  | v :: vs, u :: us, ps, ha, h, hR => by
    simp only [mapO] at h
    split at h
    · rename_i p hp
      split at h
      · rename_i qs hqs
        simp only [Option.some.injEq] at h; subst h
        exact ⟨hR v (by simp) u p ha.1 hp, reify_all ha.2 hqs fun x hx => hR x (by simp [hx])⟩
      · cases h
    · cases h
  | [], _ :: _, _, h, _, _ => by cases h
  | _ :: _, [], _, h, _, _ => by cases h

/-- A call in memory of its own. -/
theorem pure_call (hcal : CallOk Γ N P cal) (hT : ∀ g, T g → g < w.heap.size) (hgl : GlRel Γ N w T) {f : Nat} {ps rs : List PV} {us : List Value} {r : List AV × Heap}
    (ha : All2 (fun u p => RelP N.fn w T p u) us ps) (hc : cal f (ps.map .p) [] = some r) (hrs : mapO (reify r.2 4) r.1 = some rs) :
    Does P (N.fn f) us.toArray w (fun v w' => ∃ vs, v = resVal vs ∧ Grows w w' ∧
      All2 (fun u p => RelP N.fn w' (fun g => T g ∨ (w.heap.size ≤ g ∧ g < w'.heap.size)) p u) vs rs) := by
  refine (hcal f _ _ r.1 r.2 hc w T (fun _ => undef) us (rel_nil hT) hgl (All2.map_right (ha.imp fun u p h => .p _ _ h))).mono ?_
  rintro e w' ⟨vs, S', μ', rfl, hs, hv⟩
  have no : ∀ g, ¬ alive (fun _ => undef) [] g := fun g h => by obtain ⟨id, h1, h2⟩ := h; simp at h2
  have hS' : ∀ g, S' g → T g ∨ (w.heap.size ≤ g ∧ g < w'.heap.size) := fun g h => by
    by_cases hg : g < w.heap.size
    · rcases hs.ext.new g h hg with h | h
      · exact .inl h
      · exact absurd h (no g)
    · exact .inr ⟨by omega, hs.rel.lt g h⟩
  refine ⟨vs, rfl, ⟨hs.ext.os, hs.ext.tape, hs.ext.output, hs.ext.size, fun g hg => hs.ext.keep g hg (no g)⟩, ?_⟩
  refine reify_all hv hrs fun v _ u p hvu hp => reify_rel hs.rel hS' (fun id b g hb hg => ?_) 4 hvu hp
  by_cases hl : g < w.heap.size
  · have : S' g := by
      have hbr := hs.rel.blk id b hb
      cases b with
      | box cs => exact absurd (hs.ext.own g ⟨id, hg, .inl ⟨cs, hb⟩⟩ hl) (no g)
      | row f sz xs =>
        cases f with
        | true => obtain ⟨_, _, us, _, _, _, h4⟩ := hbr; exact h4 rfl g hg
        | false => exact absurd (hs.ext.own g ⟨id, hg, .inr ⟨sz, xs, hb⟩⟩ hl) (no g)
    exact hS' g this
  · exact .inr ⟨by omega, hs.rel.blk_lt hb hg⟩

theorem results_rel {S' : Nat → Prop} {μ' : Nat → Value} {H' : Heap} : ∀ {vs : List Value} {rs : List AV}, All2 (fun u x => RelV N.fn w S' μ' H' x u) vs rs → RelV N.fn w S' μ' H' (results rs) (resVal vs)
  | [v], [r], h => h.1
  | [], [], _ => .tup [] #[] rfl (by simp)
  | v :: v' :: vs, r :: r' :: rs, h => by
    have := h.get
    refine .tup _ _ (by simpa using this.1) fun j c hc => ?_
    obtain ⟨h1, h2⟩ := this
    have hl : j < (v :: v' :: vs).length := by rw [h1]; exact (List.getElem?_eq_some_iff.1 hc).1
    have := h2 j _ c (List.getElem?_eq_getElem hl) hc
    simpa [Array.getD_eq_getD_getElem?, List.getElem?_eq_getElem hl] using this
  | [], _ :: _, h => by cases h
  | _ :: _, [], h => by cases h
  | [_], _ :: _ :: _, h => by cases h.2
  | _ :: _ :: _, [_], h => by cases h.2

theorem callee_rel {fv : AV} {u : Value} {fc : Nat × List AV} (h : RelV N.fn w S μ H fv u) (hc : callee fv = some fc) :
    ∃ us : Array Value, u = .func (.func (N.fn fc.1)) #[] us ∧ All2 (fun u x => RelV N.fn w S μ H x u) us.toList fc.2 := by
  unfold callee at hc
  split at hc
  · rename_i f cs
    simp only [Option.some.injEq] at hc; subst hc
    cases h with
    | p _ _ h =>
      cases h with
      | clo _ _ us h1 h2 h3 =>
        refine ⟨us, rfl, All2.map_right (.of_get (by simpa using h1) fun j x y hx hy => .p _ _ ?_)⟩
        have := h3 j y hy
        rwa [getD_array, List.getD_eq_getElem?_getD, hx] at this
  · rename_i f cs
    simp only [Option.some.injEq] at hc; subst hc
    cases h with
    | clo _ _ us h1 h2 h3 =>
      refine ⟨us, rfl, .of_get (by simpa using h1) fun j x y hx hy => ?_⟩
      have := h3 j y hy
      rwa [getD_array, List.getD_eq_getElem?_getD, hx] at this
  · cases hc

theorem exec_call {o : Oper} {f' : Operand} {xs : List Operand} {Ts : List TypeId} {g : Nat} {us : Array Value} (h : callOp o = some (.value f', xs, Ts)) (hf : a.eval f' = .func (.func g) #[] us) :
    (execOp a.eval o).run P w = (Go.callFunc g (xs.map a.eval ++ us.toList).toArray).run P w := by
  unfold callOp at h
  split at h
  · rename_i c hc
    simp only [Option.some.injEq, Prod.mk.injEq] at h
    obtain ⟨h1, h2, h3⟩ := h
    have e2 : c.args.map a.eval = (xs.map a.eval).toArray := by rw [← h2, ← Array.toList_map]
    have e3 : ((xs.map a.eval).toArray ++ us) = (xs.map a.eval ++ us.toList).toArray := by simp
    simp only [execOp, hc, Go.resolve, h1, Go.Deferred.ofValue, hf, Go.Sem.run_bind, Go.Sem.run_pure, Go.Result.andThen_ok, Go.invoke, e2, Array.empty_append, e3]
  · cases h

/-- A call, carried out. -/
def CDone (N : Names) (P : Program) (w : World) (S : Nat → Prop) (μ : Nat → Value) (H : Heap) (o : Oper) (a : Act) (v : AV) (H' : Heap) : Prop :=
  ∃ f us, (execOp a.eval o).run P w = (Go.callFunc f us).run P w ∧ Does P f us w fun u w' => ∃ S' μ', Step N.fn w S μ H w' S' μ' H' ∧ RelV N.fn w' S' μ' H' v u

theorem Env.Rel.glrel (he : Env.Rel Γ N w S μ H σ a) : GlRel Γ N w S := he.gl
theorem GlRel.more (h : GlRel Γ N w S) (hT : ∀ g, S g → T g) : GlRel Γ N w T := ⟨fun n cs hn => (h.rel n cs hn).more hT, h.whole⟩

theorem allP_spec : ∀ {l : List AV}, allP l = true → ∀ v ∈ l, ∃ p, v = .p p
  | [], _ => by simp
  | v :: l, h => by
    cases v <;> simp only [allP, Bool.false_eq_true] at h
    rename_i p
    intro x hx
    rcases List.mem_cons.1 hx with rfl | hx
    · exact ⟨p, rfl⟩
    · exact allP_spec h x hx

theorem callee_p {fv : AV} {fc : Nat × List AV} (hp : fv.isP = true) (hc : callee fv = some fc) : ∀ v ∈ fc.2, ∃ p, v = .p p := by
  unfold callee at hc
  split at hc
  · simp only [Option.some.injEq] at hc; subst hc
    intro v hv
    obtain ⟨x, _, rfl⟩ := List.mem_map.1 hv
    exact ⟨x, rfl⟩
  · cases hp
  · cases hc

theorem call_sound (hcal : CallOk Γ N P cal) {o : Oper} {f : Arg} {args : List Arg} {v : AV} (hc : chkQ P N o (.call f args) = true) (he : Env.Rel Γ N w S μ H σ a) (hr : Rel N.fn w S μ H)
    (hv : evQ Γ cal σ H (.call f args) = some v) : CDone N P w S μ H o a v H := by
  simp only [chkQ] at hc
  split at hc
  rotate_left
  · cases hc
  rename_i f' xs' Ts hy
  simp only [Bool.and_eq_true] at hc
  have hf := he.arg hc.1
  have ha := he.args hc.2
  simp only [evQ, callP, Option.bind_eq_some_iff] at hv
  obtain ⟨rs, ⟨fc, hfc, ps, hps, r, hcr, hrs⟩, hv⟩ := hv
  simp only [ifB] at hv
  split at hv
  rotate_left
  · cases hv
  rename_i hB
  simp only [Option.some.injEq] at hv; subst hv
  obtain ⟨caps, hcl, hcaps⟩ := callee_rel hf hfc
  have hall := ha.append hcaps
  by_cases hA : (allP (args.map (Arg.ev Γ σ)) && (f.ev Γ σ).isP) = true
  · simp only [Bool.and_eq_true] at hA
    have hall' : All2 (fun u p => RelP N.fn w S p u) (xs'.map a.eval ++ caps.toList) ps := reify_all hall hps fun v hv u p hvu hp => by
      have : ∃ q, v = .p q := by
        rcases List.mem_append.1 hv with h | h
        · exact allP_spec hA.1 v h
        · exact callee_p hA.2 hfc v h
      obtain ⟨q, rfl⟩ := this
      simp only [reify, Option.some.injEq] at hp; subst hp
      exact hvu.p_inv
    have h2 := pure_call hcal hr.lt he.glrel hall' hcr hrs
    refine ⟨_, _, exec_call hy hcl, h2.mono ?_⟩
    rintro e w' ⟨vs, rfl, hg, hvs⟩
    refine ⟨_, μ, .grow hr hg (fun g h => .inl h) (fun g h => ?_) (fun g h => ?_), results_rel (All2.map_right (hvs.imp fun u p h => .p _ _ h))⟩
    · rcases h with h | h
      · exact Nat.lt_of_lt_of_le (hr.lt g h) hg.size
      · exact h.2
    · rcases h with h | h
      · exact .inl h
      · exact .inr h.1
  · have hfl : rs.all flat = true := by
      rcases Bool.or_eq_true_iff.1 hB with h | h
      · exact absurd h hA
      · exact h
    have hall' : All2 (fun u p => RelP N.fn w (fun g => g < w.heap.size) p u) (xs'.map a.eval ++ caps.toList) ps := reify_all hall hps fun v hv u p hvu hp =>
      reify_rel hr hr.lt (fun id b g hb hg => hr.blk_lt hb hg) 4 hvu hp
    have h2 := pure_call hcal (fun g h => h) (he.glrel.more hr.lt) hall' hcr hrs
    refine ⟨_, _, exec_call hy hcl, h2.mono ?_⟩
    rintro e w' ⟨vs, rfl, hg, hvs⟩
    refine ⟨S, μ, .grow hr hg (fun g h => h) (fun g h => Nat.lt_of_lt_of_le (hr.lt g h) hg.size) (fun g h => .inl h), results_rel (All2.map_right ?_)⟩
    have := hvs.get
    refine .of_get this.1 fun j u p hu hp => .p _ _ (flat_rel (List.all_eq_true.1 hfl p (List.mem_of_getElem? hp)) (this.2 j u p hu hp))

theorem rowsOnly_spec : ∀ {l : List AV}, rowsOnly l = true → ∀ v ∈ l, (∃ p, v = .p p) ∨ ∃ id n, v = .own id n
  | [], _ => by simp
  | v :: l, h => by
    cases v <;> simp only [rowsOnly, Bool.false_eq_true] at h
    · rename_i p
      intro x hx
      rcases List.mem_cons.1 hx with rfl | hx
      · exact .inl ⟨p, rfl⟩
      · exact rowsOnly_spec h x hx
    · rename_i id n
      intro x hx
      rcases List.mem_cons.1 hx with rfl | hx
      · exact .inr ⟨id, n, rfl⟩
      · exact rowsOnly_spec h x hx

theorem callf_sound (hcal : CallOk Γ N P cal) {o : Oper} {f : Arg} {args : List Arg} {v : AV} {H' : Heap} (hc : chkX P N o (.callf f args) = true) (he : Env.Rel Γ N w S μ H σ a) (hr : Rel N.fn w S μ H)
    (hv : evX Γ cal σ H (.callf f args) = some (v, H')) : CDone N P w S μ H o a v H' := by
  simp only [chkX] at hc
  split at hc
  rotate_left
  · cases hc
  rename_i f' xs' Ts hy
  simp only [Bool.and_eq_true] at hc
  have hf := he.arg hc.1
  have ha := he.args hc.2
  simp only [evX, ifB] at hv
  split at hv
  rotate_left
  · cases hv
  rename_i hB
  simp only [Bool.and_eq_true] at hB
  simp only [callP, Option.map_eq_some_iff, Option.bind_eq_some_iff, Prod.mk.injEq] at hv
  obtain ⟨rs, ⟨fc, hfc, ps, hps, r, hcr, hrs⟩, rfl, rfl⟩ := hv
  obtain ⟨caps, hcl, hcaps⟩ := callee_rel hf hfc
  have hall := ha.append hcaps
  obtain ⟨S', hs, hrow⟩ := step_freeze ((args.map (Arg.ev Γ σ)).flatMap AV.cells) hr
  have own : ∀ {id n u p d}, AV.own id n ∈ (args.map (Arg.ev Γ σ)).flatMap AV.cells → RelV N.fn w S μ H (.own id n) u → reify H (d + 1) (.own id n) = some p → RelP N.fn w S' p u := by
    intro id n u p d hm hvu hp
    simp only [reify, Option.map_eq_some_iff] at hp
    obtain ⟨rr, hrr, rfl⟩ := hp
    obtain ⟨fz, hb, hn⟩ := rowOf_spec hrr
    rw [hvu.own_inv hrr]
    obtain ⟨f1, hb1, hf1⟩ := hrow id fz rr.1 rr.2 hb
    have := hf1 (.inl ⟨n, hm⟩)
    subst this
    refine row_relP hr hb hs.ext.more fun g hg => ?_
    obtain ⟨_, _, us, _, _, _, h4⟩ := hs.rel.blk id _ hb1
    exact h4 rfl g hg
  have cell : ∀ {c u p d}, c ∈ (args.map (Arg.ev Γ σ)).flatMap AV.cells → RelV N.fn w S μ H c u → reify H (d + 1) c = some p → RelP N.fn w S' p u := by
    intro c u p d hm hvu hp
    rcases rowsOnly_spec hB.1 c hm with ⟨q, rfl⟩ | ⟨id, n, rfl⟩
    · simp only [reify, Option.some.injEq] at hp; subst hp
      exact hvu.p_inv.more hs.ext.more
    · exact own hm hvu hp
  have hall' : All2 (fun u p => RelP N.fn w S' p u) (xs'.map a.eval ++ caps.toList) ps := reify_all hall hps fun v hv u p hvu hp => by
    rcases List.mem_append.1 hv with h | h
    · have sub : ∀ c ∈ v.cells, c ∈ (args.map (Arg.ev Γ σ)).flatMap AV.cells := fun c hc => List.mem_flatMap.2 ⟨v, h, hc⟩
      cases v with
      | p q => simp only [reify, Option.some.injEq] at hp; subst hp; exact hvu.p_inv.more hs.ext.more
      | own id n => exact own (sub _ (by simp [AV.cells])) hvu hp
      | agg cs =>
        rw [show reify H 4 (.agg cs) = (mapO (reify H 3) cs).map .agg from rfl, Option.map_eq_some_iff] at hp
        obtain ⟨qs, hqs, rfl⟩ := hp
        obtain ⟨h1, h2⟩ := mapO_spec hqs
        cases hvu with
        | agg _ us h3 h4 h5 =>
          refine .agg qs us (by rw [h3, h1]) (fun c hc => ?_) (fun j c hc => ?_)
          · obtain ⟨j, hj⟩ := List.getElem?_of_mem hc
            obtain ⟨x, hx, hx'⟩ := h2 j c hj
            exact reify_one hx' (h4 x (List.mem_of_getElem? hx))
          · obtain ⟨x, hx, hx'⟩ := h2 j c hc
            exact cell (sub x (List.mem_of_getElem? hx)) (h5 j x hx) hx'
      | bx id off => rcases rowsOnly_spec hB.1 _ (sub (.bx id off) (by simp [AV.cells])) with ⟨_, h⟩ | ⟨_, _, h⟩ <;> cases h
      | el id n i off => rcases rowsOnly_spec hB.1 _ (sub (.el id n i off) (by simp [AV.cells])) with ⟨_, h⟩ | ⟨_, _, h⟩ <;> cases h
      | clo f cs => rcases rowsOnly_spec hB.1 _ (sub (.clo f cs) (by simp [AV.cells])) with ⟨_, h⟩ | ⟨_, _, h⟩ <;> cases h
      | tup cs => simp [reify] at hp
      | nov => simp [reify] at hp
      | any => simp [reify] at hp
    · obtain ⟨q, rfl⟩ := callee_p hB.2 hfc v h
      simp only [reify, Option.some.injEq] at hp; subst hp
      exact hvu.p_inv.more hs.ext.more
  have h2 := pure_call hcal hs.rel.lt (he.glrel.more hs.ext.more) hall' hcr hrs
  refine ⟨_, _, exec_call hy hcl, h2.mono ?_⟩
  rintro e w' ⟨vs, rfl, hg, hvs⟩
  refine ⟨_, μ, hs.trans (.grow hs.rel hg (fun g h => .inl h) (fun g h => ?_) (fun g h => ?_)), results_rel (All2.map_right (hvs.imp fun u p h => .p _ _ h))⟩
  · rcases h with h | h
    · exact Nat.lt_of_lt_of_le (hs.rel.lt g h) hg.size
    · exact h.2
  · rcases h with h | h
    · exact .inl h
    · exact .inr h.1
end
end Ab
