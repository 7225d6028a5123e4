/- Operations that change memory: checks and soundness. -/
import Derived.Test.YtgdkafbcchkplaaGreatDoorAbY1
namespace Ab
open Go (IntKind BinOp UnOp World Value Addr Obj undef maxLen Program TypeId Oper Op Operand Act Sem Next Result execOp Builtin)

/-- What is asked of the type of a row's elements. -/
def rowT (P : Program) (e : TypeId) (sz : Nat) : Bool :=
  match P.info? e with
  | some i => i.size == sz && decide (i.bytes ≤ 65536) && (match i.zero with | some z => z.cells.size == sz | none => false)
  | none => false
theorem rowT_spec {P e sz} (h : rowT P e sz = true) : ∃ i z, P.info? e = some i ∧ i.size = sz ∧ i.bytes ≤ 65536 ∧ i.zero = some z ∧ z.cells.size = sz := by
  unfold rowT at h
  split at h
  · rename_i i hi
    simp only [Bool.and_eq_true, beq_iff_eq, decide_eq_true_eq] at h
    obtain ⟨⟨h1, h2⟩, h3⟩ := h
    split at h3
    · rename_i z hz
      simp only [beq_iff_eq] at h3
      exact ⟨i, z, hi, h1, h2, hz, h3⟩
    · cases h3
  · cases h

def chkX (P : Program) (N : Names) (o : Oper) : XOp → Bool
  | .alloc zero => match o.op with | .alloc T => zeroT P T zero | _ => false
  | .box x => match o.op with | .box _ x' => chkArg N x' x | _ => false
  | .store sz x v => match o.op with | .store T x' v' => sizeT P T sz && chkArg N x' x && chkArg N v' v | _ => false
  | .mkslice sz ag zero n c => match o.op with
    | .makeSlice T n' c' => (match slT P T with | some e => rowT P e sz && zeroT P e zero | none => false) && zero.length == sz && decide (0 < sz) && (ag || sz == 1) && chkArg N n' n && chkArg N c' c
    | _ => false
  | .newrow sz => match o.op with | .assign (.const (.slice none 0 0)) => decide (0 < sz) | _ => false
  | .append sz x y => match callOp o with
    | some (.builtin .append, [x', y'], [T, T']) => T' == T && (match slT P T with | some e => rowT P e sz | none => false) && decide (0 < sz) && chkArg N x' x && chkArg N y' y
    | _ => false
  | .slicef sz x lo hi => match o.op with | .slice T x' lo' hi' none => (match slT P T with | some e => sizeT P e sz | none => false) && chkArg N x' x && chkO N lo' lo && chkO N hi' hi | _ => false
  | .range x => match o.op with | .range T x' => strT P T && chkArg N x' x | _ => false
  | .next x => match o.op with | .next x' true => chkArg N x' x | _ => false
  | .callf f args => match callOp o with | some (.value f', xs', _) => chkArg N f' f && chkArgs N xs' args | _ => false
  | _ => false

def chkOp (P : Program) (N : Names) (o : Oper) : QOp ⊕ XOp → Bool
  | .inl q => chkQ P N o q
  | .inr x => chkX P N o x

section
variable {Γ : Ctx} {N : Names} {P : Program} {w : World} {S : Nat → Prop} {μ : Nat → Value} {H : Heap} {σ : Nat → AV} {a : Act}

/-- What a value becomes behind an operation that yields nothing. -/
def Yield (r : Result Next) (u : Value) (w : World) : Prop := r = .ok (.value u) w ∨ (r = .ok .skip w ∧ u = undef)

def XDone (N : Names) (P : Program) (w : World) (S : Nat → Prop) (μ : Nat → Value) (H : Heap) (o : Oper) (a : Act) (v : AV) (H' : Heap) : Prop :=
  ∃ u w' S' μ', Yield ((execOp a.eval o).run P w) u w' ∧ Step N.fn w S μ H w' S' μ' H' ∧ RelV N.fn w' S' μ' H' v u

theorem XDone.of {o : Oper} {r : Sem Value} {v : AV} {H' : Heap} (he : execOp a.eval o = (do pure (.value (← r)))) (h : ∃ u w' μ', r.run P w = .ok u w' ∧ Step N.fn w S μ H w' S μ' H' ∧ RelV N.fn w' S μ' H' v u) : XDone N P w S μ H o a v H' := by
  obtain ⟨u, w', μ', h1, h2, h3⟩ := h
  exact ⟨u, w', S, μ', .inl (by simp [he, h1]), h2, h3⟩

def XOp.known : XOp → Bool
  | .callf _ _ | .calls _ _ => false
  | _ => true

theorem x_sound {o : Oper} {x : XOp} {v : AV} {H' : Heap} {cal : Nat → List AV → Heap → Option (List AV × Heap)} (hq : x.known = true) (hc : chkX P N o x = true) (he : Env.Rel Γ N w S μ H σ a) (hr : Rel N.fn w S μ H)
    (hv : evX Γ cal σ H x = some (v, H')) : XDone N P w S μ H o a v H' := by
  cases x with
  | alloc zero =>
    simp only [chkX] at hc
    simp only [evX, Option.some.injEq, Prod.mk.injEq] at hv
    obtain ⟨rfl, rfl⟩ := hv
    split at hc
    · rename_i T hy; exact .of (by simp only [execOp, hy]) (x_alloc hr hc)
    · cases hc
  | box x =>
    simp only [chkX] at hc
    split at hc
    · rename_i T x' hy; exact .of (r := Go.Instr.box T (a.eval x')) (by simp only [execOp, hy]) (x_box hr (he.arg hc) hv)
    · cases hc
  | store sz x y =>
    simp only [chkX] at hc
    simp only [evX, Option.map_eq_some_iff, Prod.mk.injEq] at hv
    obtain ⟨H1, hv, rfl, rfl⟩ := hv
    split at hc
    · rename_i T x' y' hy
      simp only [Bool.and_eq_true] at hc
      obtain ⟨w', μ', h1, h2⟩ := x_store hr (sizeT_spec hc.1.1) (he.arg hc.1.2) (he.arg hc.2) hv
      exact ⟨undef, w', S, μ', .inr ⟨by simp [execOp, hy, h1], rfl⟩, h2, .nov⟩
    · cases hc
  | mkslice sz ag zero n c =>
    simp only [chkX] at hc
    split at hc
    · rename_i T n' c' hy
      simp only [Bool.and_eq_true, decide_eq_true_eq, beq_iff_eq, Bool.or_eq_true] at hc
      obtain ⟨⟨⟨⟨⟨h1, h2⟩, h3⟩, hag⟩, h4⟩, h5⟩ := hc
      split at h1
      · rename_i e hT
        simp only [Bool.and_eq_true] at h1
        obtain ⟨i, z, hi, hsz, hb, _, _⟩ := rowT_spec h1.1
        have hag' : ag = false → sz = 1 := fun e => by
          rcases hag with h | h
          · rw [h] at e; cases e
          · exact h
        exact .of (by simp only [execOp, hy]) (x_mkslice hr hT hi hsz h1.2 h2 h3 hag' hb (he.arg h4) (he.arg h5) hv)
      · cases h1
    · cases hc
  | newrow sz =>
    simp only [chkX] at hc
    simp only [evX, Option.some.injEq, Prod.mk.injEq] at hv
    obtain ⟨rfl, rfl⟩ := hv
    split at hc
    · rename_i hy
      obtain ⟨μ', h1, h2⟩ := x_newrow hr (of_decide_eq_true hc)
      exact ⟨_, w, S, μ', .inl (by simp [execOp, hy]; rfl), h1, h2⟩
    · cases hc
  | append sz x y =>
    simp only [chkX] at hc
    split at hc
    · rename_i x' y' T T' hy
      simp only [Bool.and_eq_true, decide_eq_true_eq, beq_iff_eq] at hc
      obtain ⟨⟨⟨⟨rfl, h1⟩, h0⟩, h2⟩, h3⟩ := hc
      split at h1
      · rename_i e hT
        obtain ⟨i, z, hi, hsz, hb, hz, hzs⟩ := rowT_spec h1
        obtain ⟨cs, hx⟩ := exec_builtin (a := a) hy
        simp only [evX, Option.bind_eq_some_iff] at hv
        obtain ⟨ys, hys, hv⟩ := hv
        obtain ⟨news, h4, h5⟩ := elems_src hr h0 (he.arg h3) hys
        obtain ⟨v', w', μ', h6⟩ := x_appendA (ty := o.type) hr (slT_spec hT) hi hz hsz hzs h0 hb (he.arg h2) h4 h5 hv
        refine .of (r := Builtin.append_ #[T', T'] o.type #[a.eval x', a.eval y']) (by rw [hx]; rfl) ⟨v', w', μ', h6⟩
      · cases h1
    · cases hc
  | range x =>
    simp only [chkX] at hc
    split at hc
    · rename_i T x' hy
      simp only [Bool.and_eq_true] at hc
      exact .of (by simp only [execOp, hy]) (x_range hr hc.1 (he.arg hc.2) hv)
    · cases hc
  | next x =>
    simp only [chkX] at hc
    split at hc
    · rename_i x' hy
      exact .of (r := Go.Instr.next (a.eval x') true o.type) (by simp only [execOp, hy]) (x_next hr (he.arg hc) hv)
    · cases hc
  | appendS x y => cases hc
  | copy sz x y => cases hc
  | bytesOf x => cases hc
  | slicef sz x lo hi =>
    simp only [chkX] at hc
    split at hc
    · rename_i T x' lo' hi' hy
      simp only [Bool.and_eq_true] at hc
      obtain ⟨⟨⟨h1, h2⟩, h3⟩, h4⟩ := hc
      split at h1
      · rename_i e hT
        obtain ⟨u, w', S', μ', g1, g2, g3⟩ := x_slicef hr hT (sizeT_spec h1) (he.arg h2) (he.opt h3) (he.opt h4) hv
        have hex : execOp a.eval o = (do pure (.value (← Go.Instr.sliceAt T (a.eval x') (lo'.map a.eval) (hi'.map a.eval) none))) := by simp only [execOp, hy]; rfl
        exact ⟨u, w', S', μ', .inl (by simp [hex, g1]), g2, g3⟩
      · cases h1
    · cases hc
  | callf f args => cases hq
  | calls f args => cases hq
end
end Ab
