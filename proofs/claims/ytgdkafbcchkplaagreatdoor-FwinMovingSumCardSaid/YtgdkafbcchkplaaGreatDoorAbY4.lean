/- Statements in a row; regions that draw their order. -/
import Derived.Test.YtgdkafbcchkplaaGreatDoorAbY3
import Derived.Orders
namespace Ab
open Go (IntKind BinOp UnOp World Value Addr Obj undef maxLen Program TypeId Oper Op Operand Act Sem Next Result execOp Builtin Calls Ending Exit)

def Arg.tmps : Arg → List Nat
  | .v t => [t]
  | _ => []

def QOp.args : QOp → List Arg
  | .bad => []
  | .mov x | .nilchk x | .un _ x | .conv _ x | .same x | .strOf x | .runeStr x | .len _ x | .fld _ _ _ x | .faddr _ x | .load _ _ x | .ext x _ => [x]
  | .pick c a b => [c, a, b]
  | .bin _ x y | .eqs _ _ x y | .eqk _ _ x y | .idx x y | .aidx _ _ _ x y | .iaddr _ x y | .iaddrA _ _ x y => [x, y]
  | .sliceS x lo hi | .slice _ x lo hi => x :: (lo.toList ++ hi.toList)
  | .build _ ps | .bslice _ _ _ _ ps => ps.map (·.arg)
  | .minmax _ xs | .clos _ xs => xs
  | .call f xs => f :: xs
def XOp.args : XOp → List Arg
  | .alloc _ | .newrow _ => []
  | .box x | .bytesOf x | .range x | .next x => [x]
  | .store _ x v | .append _ x v | .appendS x v | .copy _ x v => [x, v]
  | .mkslice _ _ _ n c => [n, c]
  | .slicef _ x lo hi => x :: (lo.toList ++ hi.toList)
  | .callf f xs | .calls f xs => f :: xs
def opArgs : QOp ⊕ XOp → List Arg
  | .inl q => q.args
  | .inr x => x.args
def St.reads (s : St) : List Nat := (match s.g with | some (t, _) => [t] | none => []) ++ (opArgs s.op).flatMap Arg.tmps

/-- One statement: what it yields, what memory is then. -/
def evOne (Γ : Ctx) (cal : Nat → List AV → Heap → Option (List AV × Heap)) (s : St) (σ : Nat → AV) (H : Heap) : Option (AV × Heap) :=
  match wanted σ s.g with
  | none => none
  | some false => some (.nov, H)
  | some true => match s.op with
    | .inl q => (evQ Γ cal σ H q).map fun v => (v, H)
    | .inr x => evX Γ cal σ H x

section
variable {Γ : Ctx} {cal : Nat → List AV → Heap → Option (List AV × Heap)}

theorem evSts_cons {s : St} {r : List St} {env : Env} {H : Heap} :
    evSts Γ cal (s :: r) env H = (evOne Γ cal s (look env) H).bind fun x => evSts Γ cal r (put env s.dst x.1) x.2 := by
  simp only [evSts, evOne]
  cases wanted (look env) s.g with
  | none => rfl
  | some b =>
    cases b with
    | false => rfl
    | true =>
      cases s.op with
      | inl q => simp only []; cases evQ Γ cal (look env) H q <;> rfl
      | inr x => simp only []; cases evX Γ cal (look env) H x <;> rfl

theorem Arg.ev_congr {σ σ' : Nat → AV} {x : Arg} (h : ∀ t ∈ x.tmps, σ t = σ' t) : x.ev Γ σ = x.ev Γ σ' := by
  cases x <;> try rfl
  exact h _ (by simp [Arg.tmps])

theorem map_congr {α β : Type} {f g : α → β} {l : List α} (h : ∀ x ∈ l, f x = g x) : l.map f = l.map g := List.map_congr_left h

theorem evQ_congr {σ σ' : Nat → AV} {H : Heap} {q : QOp} (h : ∀ x ∈ q.args, x.ev Γ σ = x.ev Γ σ') : evQ Γ cal σ H q = evQ Γ cal σ' H q := by
  have om : ∀ o : Option Arg, (∀ x ∈ o.toList, x.ev Γ σ = x.ev Γ σ') → o.map (Arg.ev Γ σ) = o.map (Arg.ev Γ σ') := fun o ho => by
    cases o with
    | none => rfl
    | some x => simp only [Option.map_some, ho x (by simp)]
  cases q <;> simp only [QOp.args, List.mem_cons, List.not_mem_nil, or_false, forall_eq, forall_eq_or_imp, List.mem_append, List.mem_map, forall_exists_index, and_imp, forall_apply_eq_imp_iff₂] at h <;> simp only [evQ]
  case sliceS x lo hi => rw [h.1, om lo fun x hx => h.2 x (.inl hx), om hi fun x hx => h.2 x (.inr hx)]
  case slice x lo hi => rw [h.1, om lo fun x hx => h.2 x (.inl hx), om hi fun x hx => h.2 x (.inr hx)]
  case build zero parts => rw [map_congr (f := fun q : Parts => (q.off, q.sz, Arg.ev Γ σ q.arg)) (g := fun q : Parts => (q.off, q.sz, Arg.ev Γ σ' q.arg)) fun x hx => by rw [h x hx]]
  case bslice sz ag n zero parts => rw [map_congr (f := fun q : Parts => (q.off, q.sz, Arg.ev Γ σ q.arg)) (g := fun q : Parts => (q.off, q.sz, Arg.ev Γ σ' q.arg)) fun x hx => by rw [h x hx]]
  case minmax mx xs => rw [map_congr h]
  case clos f xs => rw [map_congr h]
  case call f xs => rw [h.1, map_congr h.2]
  all_goals (first | rfl | rw [h] | rw [h.1, h.2] | rw [h.1, h.2.1, h.2.2])

theorem evX_congr {σ σ' : Nat → AV} {H : Heap} {q : XOp} (h : ∀ x ∈ q.args, x.ev Γ σ = x.ev Γ σ') : evX Γ cal σ H q = evX Γ cal σ' H q := by
  have om : ∀ o : Option Arg, (∀ x ∈ o.toList, x.ev Γ σ = x.ev Γ σ') → o.map (Arg.ev Γ σ) = o.map (Arg.ev Γ σ') := fun o ho => by
    cases o with
    | none => rfl
    | some x => simp only [Option.map_some, ho x (by simp)]
  cases q <;> simp only [XOp.args, List.mem_cons, List.not_mem_nil, or_false, forall_eq, forall_eq_or_imp, List.mem_append] at h <;> simp only [evX]
  case slicef sz x lo hi => rw [h.1, om lo fun x hx => h.2 x (.inl hx), om hi fun x hx => h.2 x (.inr hx)]
  case callf f xs => rw [h.1, map_congr h.2]
  case calls f xs => rw [h.1, map_congr h.2]
  all_goals (first | rw [h] | rw [h.1, h.2])

theorem evOne_congr {σ σ' : Nat → AV} {H : Heap} {s : St} (h : ∀ t ∈ s.reads, σ t = σ' t) : evOne Γ cal s σ H = evOne Γ cal s σ' H := by
  have hg : wanted σ s.g = wanted σ' s.g := by
    cases hs : s.g with
    | none => rfl
    | some g => obtain ⟨t, b⟩ := g; simp only [wanted]; rw [h t (by simp [St.reads, hs])]
  have ha : ∀ x ∈ opArgs s.op, x.ev Γ σ = x.ev Γ σ' := fun x hx => Arg.ev_congr fun t ht => h t (by
    simp only [St.reads, List.mem_append, List.mem_flatMap]; exact .inr ⟨x, hx, ht⟩)
  unfold evOne
  rw [hg]
  cases hs : s.op with
  | inl q => rw [hs] at ha; simp only [evQ_congr ha]
  | inr x => rw [hs] at ha; simp only [evX_congr ha]
end

/-! ### One statement of the model -/
def guardOk (ops : Array Oper) : Option (Nat × Bool) → Option (Nat × Bool) → Bool
  | none, none => true
  | some (j, b), some (t, b') => (match ops[j]? with | some oj => oj.dst == some t | none => false) && b == b'
  | _, _ => false
def chkSt (P : Program) (N : Names) (ops : Array Oper) (nt : Nat) (o : Oper) (s : St) : Bool :=
  o.dst == s.dst && (match s.dst with | some d => decide (d < nt) | none => true) && guardOk ops o.guard s.g && chkOp P N o s.op

section
variable {Γ : Ctx} {N : Names} {P : Program} {w : World} {S : Nat → Prop} {μ : Nat → Value} {H H' : Heap} {σ : Nat → AV} {a : Act}
  {cal : Nat → List AV → Heap → Option (List AV × Heap)} {ops : Array Oper}

theorem get_of_getD {xs : Array Value} {t : Nat} {v : Value} (h : xs.getD t undef = v) (hv : v ≠ undef) : xs[t]? = some v := by
  cases hx : xs[t]? with
  | none => simp [Array.getD_eq_getD_getElem?, hx] at h; exact absurd h.symm hv
  | some x => simp [Array.getD_eq_getD_getElem?, hx] at h; rw [h]
theorem RelV.nov_inv {u : Value} (h : RelV N.fn w S μ H .nov u) : u = undef := by cases h; rfl
theorem wanted_spec (he : Env.Rel Γ N w S μ H σ a) {o : Oper} {g : Option (Nat × Bool)} {b : Bool} (hg : guardOk ops o.guard g = true) (hw : wanted σ g = some b) : Go.Region.wanted o (Go.yielded ops a.tmps) = b := by
  unfold guardOk at hg
  split at hg
  · rename_i h1
    simp only [wanted, Option.some.injEq] at hw; subst hw
    simp [Go.Region.wanted, h1]
  · rename_i j c t c' h1
    simp only [Bool.and_eq_true, beq_iff_eq] at hg
    obtain ⟨h2, rfl⟩ := hg
    split at h2
    · rename_i oj hj
      simp only [beq_iff_eq] at h2
      have hv := he.env t
      simp only [wanted] at hw
      split at hw
      · rename_i c' hc'
        rw [hc'] at hv
        have hv := hv.bool_inv
        simp only [Option.some.injEq] at hw; subst hw
        have hv := get_of_getD hv (by simp [undef])
        simp only [Go.Region.wanted, h1, Go.yielded, hj, h2, hv, Option.bind_some]
        rfl
      · rename_i hc'
        rw [hc'] at hv
        simp only [Option.some.injEq] at hw; subst hw
        have hv := hv.nov_inv
        simp only [Go.Region.wanted, h1, Go.yielded, hj, h2, Option.bind_some]
        cases hx : a.tmps[t]? with
        | none => rfl
        | some x =>
          simp only [Array.getD_eq_getD_getElem?, hx, Option.getD_some] at hv
          subst hv; rfl
      · cases hw
    · cases h2
  · cases hg

theorem one_sound (hcal : CallOk Γ N P cal) {nt : Nat} {i : Nat} {o : Oper} {s : St} {v : AV} (hi : ops[i]? = some o) (hc : chkSt P N ops nt o s = true) (he : Env.Rel Γ N w S μ H σ a) (hr : Rel N.fn w S μ H)
    (hv : evOne Γ cal s σ H = some (v, H')) {K : Act → World → Prop} {Q : Exit → Act → World → Prop}
    (hK : ∀ u w' S' μ', Step N.fn w S μ H w' S' μ' H' → RelV N.fn w' S' μ' H' v u → K (a.put s.dst u) w') : Go.wpOp P ops Q i K a w := by
  simp only [chkSt, Bool.and_eq_true, beq_iff_eq] at hc
  obtain ⟨⟨⟨hd, _⟩, hg⟩, hop⟩ := hc
  unfold Go.wpOp
  simp only [hi]
  rw [← hd] at hK
  simp only [evOne] at hv
  split at hv
  · cases hv
  · rename_i hw
    simp only [Option.some.injEq, Prod.mk.injEq] at hv
    obtain ⟨rfl, rfl⟩ := hv
    simp only [wanted_spec he hg hw, Bool.false_eq_true, if_false]
    exact hK undef w S μ (.refl hr) .nov
  · rename_i hw
    simp only [wanted_spec he hg hw, if_true]
    refine .inl ?_
    have fin : CDone N P w S μ H o a v H' → o.wp P a w K Q := by
      rintro ⟨f, us, h1, ⟨h2, h3⟩ | ⟨u, w', h2, S', μ', h3, h4⟩⟩
      · simp only [Go.Oper.wp, h1, h2, Go.Oper.upon]
        refine h3.mono ?_
        rintro e w' ⟨u, rfl, S', μ', h3, h4⟩
        exact hK u w' S' μ' h3 h4
      · simp only [Go.Oper.wp, h1, h2, Go.Oper.upon]
        exact hK u w' S' μ' h3 h4
    split at hv
    · rename_i q hq
      rw [hq] at hop
      simp only [Option.map_eq_some_iff, Prod.mk.injEq] at hv
      obtain ⟨v', hv, rfl, rfl⟩ := hv
      by_cases hcl : ∃ f args, q = .call f args
      · obtain ⟨f, args, rfl⟩ := hcl
        exact fin (call_sound hcal hop he hr hv)
      · obtain ⟨u, w', S', h1, h2, h3⟩ := q_sound (fun f args h => hcl ⟨f, args, h⟩) hop he hr hv
        simp only [Go.Oper.wp, h1, Go.Oper.upon]
        exact hK u w' S' μ h2 h3
    · rename_i x hx
      rw [hx] at hop
      by_cases hk : x.known = true
      · obtain ⟨u, w', S', μ', h1, h2, h3⟩ := x_sound hk hop he hr hv
        rcases h1 with h1 | ⟨h1, rfl⟩
        · simp only [Go.Oper.wp, h1, Go.Oper.upon]; exact hK u w' S' μ' h2 h3
        · simp only [Go.Oper.wp, h1, Go.Oper.upon]; exact hK undef w' S' μ' h2 h3
      · cases x <;> simp only [XOp.known, not_true_eq_false] at hk
        · exact fin (callf_sound hcal hop he hr hv)
        · cases hop

theorem RelV.step {w' : World} {S' : Nat → Prop} {μ' : Nat → Value} (hr : Rel N.fn w S μ H) (hs : Step N.fn w S μ H w' S' μ' H') {v : AV} {u : Value} (h : RelV N.fn w S μ H v u) : RelV N.fn w' S' μ' H' v u :=
  h.keep hs.ext.more (fun g hg => hs.ext.keep g (hr.lt g hg) (hr.stable hg).2) hs.moves
theorem GlRel.step {w' : World} {S' : Nat → Prop} {μ' : Nat → Value} (hr : Rel N.fn w S μ H) (hs : Step N.fn w S μ H w' S' μ' H') (h : GlRel Γ N w S) : GlRel Γ N w' S' :=
  ⟨fun n cs hn => (h.rel n cs hn).keep hs.ext.more (fun g hg => hs.ext.keep g (hr.lt g hg) (hr.stable hg).2), fun n cs hn => by
    obtain ⟨us, e, fr, h1, h2⟩ := h.whole n cs hn
    have hS : S (N.gl n) := by
      have := h.rel n cs hn
      cases this with
      | ptr _ _ _ _ hs => exact hs
    exact ⟨us, e, fr, by rw [hs.ext.keep _ (hr.lt _ hS) (hr.stable hS).2]; exact h1, h2⟩⟩

theorem put_getD_ne {dst : Option Nat} {u : Value} {t : Nat} (h : dst ≠ some t) : (a.put dst u).tmps.getD t undef = a.tmps.getD t undef := by
  cases dst with
  | none => rfl
  | some d =>
    have : d ≠ t := fun e => h (by rw [e])
    simp [Go.Act.put, Array.getElem?_setIfInBounds_ne this]
theorem put_getD_eq {d : Nat} {u : Value} (h : d < a.tmps.size) : (a.put (some d) u).tmps.getD d undef = u := by
  simp [Go.Act.put, h]
theorem put_size {dst : Option Nat} {u : Value} : (a.put dst u).tmps.size = a.tmps.size := by cases dst <;> simp [Go.Act.put]
theorem put_defers {dst : Option Nat} {u : Value} : (a.put dst u).defers = a.defers := by cases dst <;> rfl
theorem look_put {env : Env} {dst : Option Nat} {v : AV} {t : Nat} : look (put env dst v) t = if dst = some t then v else look env t := by
  cases dst with
  | none => simp [put]
  | some d => by_cases h : d = t <;> simp [put, look, h]

theorem Env.Rel.put {env : Env} {w' : World} {S' : Nat → Prop} {μ' : Nat → Value} {v : AV} {u : Value} {dst : Option Nat} (hr : Ab.Rel N.fn w S μ H) (he : Env.Rel Γ N w S μ H (look env) a) (hs : Step N.fn w S μ H w' S' μ' H')
    (hv : RelV N.fn w' S' μ' H' v u) (hd : ∀ d, dst = some d → d < a.tmps.size) : Env.Rel Γ N w' S' μ' H' (look (Ab.put env dst v)) (a.put dst u) where
  env t := by
    rw [look_put]
    split
    · rename_i h; subst h; rw [put_getD_eq (hd t rfl)]; exact hv
    · rename_i h; rw [put_getD_ne h]; exact (he.env t).step hr hs
  gl := GlRel.step hr hs he.gl

/-- Statements one behind the other. -/
theorem sts_sound (hcal : CallOk Γ N P cal) {nt : Nat} {Q : Exit → Act → World → Prop} : ∀ (sts : List St) (k : Nat) {env env' : Env} {w : World} {S : Nat → Prop} {μ : Nat → Value} {H H' : Heap} {a : Act},
    (∀ j s, sts[j]? = some s → ∃ o, ops[k + j]? = some o ∧ chkSt P N ops nt o s = true) → evSts Γ cal sts env H = some (env', H') → Rel N.fn w S μ H → Env.Rel Γ N w S μ H (look env) a → nt ≤ a.tmps.size →
    (∀ a' w' S' μ', Step N.fn w S μ H w' S' μ' H' → Env.Rel Γ N w' S' μ' H' (look env') a' → a'.tmps.size = a.tmps.size → a'.defers = a.defers → Q .normal a' w') →
    Go.wpOps P ops Q (List.range' k sts.length) a w
  | [], k, env, env', w, S, μ, H, H', a, _, hv, hr, he, hn, hQ => by
    simp only [evSts, Option.some.injEq, Prod.mk.injEq] at hv
    obtain ⟨rfl, rfl⟩ := hv
    exact hQ a w S μ (.refl hr) he rfl rfl
  | s :: sts, k, env, env', w, S, μ, H, H', a, hc, hv, hr, he, hn, hQ => by
    rw [evSts_cons, Option.bind_eq_some_iff] at hv
    obtain ⟨⟨v, H1⟩, h1, h2⟩ := hv
    obtain ⟨o, ho, hso⟩ := hc 0 s rfl
    simp only [List.length_cons, List.range'_succ, Go.wpOps_cons]
    refine one_sound hcal ho hso he hr h1 fun u w1 S1 μ1 hs hu => ?_
    have hd : ∀ d, s.dst = some d → d < a.tmps.size := fun d hd => by
      simp only [chkSt, hd, Bool.and_eq_true, decide_eq_true_eq] at hso
      omega
    refine sts_sound hcal sts (k + 1) (fun j s' hj => ?_) h2 hs.rel (he.put hr hs hu hd) (by rw [put_size]; exact hn) fun a' w' S' μ' hs' he' hsz hdf => ?_
    · obtain ⟨o', h3, h4⟩ := hc (j + 1) s' (by simpa using hj)
      exact ⟨o', by rw [← h3]; congr 1; omega, h4⟩
    · exact hQ a' w' S' μ' (hs.trans hs') he' (by rw [hsz, put_size]) (by rw [hdf, put_defers])
end
end Ab
