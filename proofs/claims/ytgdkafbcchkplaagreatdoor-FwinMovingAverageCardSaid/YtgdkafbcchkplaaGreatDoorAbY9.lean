import Derived.Test.YtgdkafbcchkplaaGreatDoorAbX6
import Derived.Orders
import Derived.LoopN
import Derived.Scope
/- Which of the model's operations an abstract one stands for; that it does what the abstract one says. -/
namespace Ab
open Go (IntKind BinOp UnOp World Value Addr Obj undef maxLen Program TypeId Oper Op Operand Act Sem Next Result execOp Builtin)

def chkArgs (N : Names) : List Operand → List Arg → Bool
  | [], [] => true
  | x :: xs, y :: ys => chkArg N x y && chkArgs N xs ys
  | _, _ => false
def chkO (N : Names) : Option Operand → Option Arg → Bool
  | none, none => true
  | some x, some y => chkArg N x y
  | _, _ => false
def chkParts (N : Names) (pl : Nat → Option (Nat × Nat)) : List (Nat × Operand) → List Parts → Bool
  | [], [] => true
  | x :: xs, y :: ys => (match pl x.1 with | some r => r.1 == y.off && r.2 == y.sz | none => false) && chkArg N x.2 y.arg && chkParts N pl xs ys
  | _, _ => false
def sizeT (P : Program) (T : TypeId) (sz : Nat) : Bool := match P.info? T with | some i => i.size == sz | none => false
def aggT (P : Program) (T : TypeId) (ag : Bool) : Bool := match aggB P T with | some b => b == ag | none => false
def intIs (P : Program) (T : TypeId) (k : IntKind) : Bool := match intT P T with | some k' => k' == k | none => false
def fieldAt (P : Program) (T : TypeId) (k : Nat) : Option Go.Field := (fieldsT P T).bind fun fs => fs[k]?

theorem sizeT_spec {P T sz} (h : sizeT P T sz = true) : (P.info? T).map (·.size) = some sz := by
  unfold sizeT at h
  split at h
  · rename_i i hi; simp only [beq_iff_eq] at h; simp [hi, h]
  · cases h
theorem aggT_spec {P T ag} (h : aggT P T ag = true) : aggB P T = some ag := by
  unfold aggT at h
  split at h
  · rename_i b hb; simp only [beq_iff_eq] at h; rw [hb, h]
  · cases h
theorem intIs_spec {P T k} (h : intIs P T k = true) : intT P T = some k := by
  unfold intIs at h
  split at h
  · rename_i b hb; simp only [beq_iff_eq] at h; rw [hb, h]
  · cases h
theorem fieldAt_spec {P T k f} (h : fieldAt P T k = some f) : ∃ fs, fieldsT P T = some fs ∧ fs[k]? = some f := Option.bind_eq_some_iff.1 h

def callOp (o : Oper) : Option (Go.Callee × List Operand × List TypeId) := match o.op with | .call c => some (c.callee, c.args.toList, c.argTypes.toList) | _ => none

def chkQ (P : Program) (N : Names) (o : Oper) : QOp → Bool
  | .bad => true
  | .mov x => match o.op with | .move y | .assign y => chkArg N y x | _ => false
  | .pick c a b => match o.op with | .pick c' a' b' => chkArg N c' c && chkArg N a' a && chkArg N b' b | _ => false
  | .nilchk x => match o.op with | .nilCheck y => chkArg N y x | _ => false
  | .bin op x y => match o.op with | .binOp op' _ x' y' _ => decide (op' = op) && chkArg N x' x && chkArg N y' y | _ => false
  | .eqs ks neg x y => match o.op with | .binOp op T x' y' _ => decide (op = if neg then .neq else .eql) && eqsT P T ks && chkArg N x' x && chkArg N y' y | _ => false
  | .eqk kd neg x y => match o.op with | .binOp op T x' y' _ => decide (op = if neg then .neq else .eql) && eqkT P T kd && chkArg N x' x && chkArg N y' y | _ => false
  | .un op x => match o.op with | .unOp op' _ x' => decide (op' = op) && chkArg N x' x | _ => false
  | .conv k x => match o.op with | .convert s d x' => (intT P s).isSome && intIs P d k && chkArg N x' x | _ => false
  | .same x => match o.op with | .convert s d x' => strT P s && strT P d && chkArg N x' x | _ => false
  | .strOf x => match o.op with | .convert s d x' => (match slT P s with | some e => intIs P e .u8 | none => false) && strT P d && chkArg N x' x | _ => false
  | .runeStr x => match o.op with | .convert s d x' => (intT P s).isSome && strT P d && chkArg N x' x | _ => false
  | .len s x => match callOp o with | some (.builtin .len, [x'], [T]) => (if s then strT P T else (slT P T).isSome) && chkArg N x' x | _ => false
  | .idx x i => match o.op with | .index T x' i' => strT P T && chkArg N x' x && chkArg N i' i | _ => false
  | .aidx sz ag n x i => match o.op with | .index T x' i' => (match arrT P T with | some (n', e) => n' == n && aggT P e ag && sizeT P e sz | none => false) && chkArg N x' x && chkArg N i' i | _ => false
  | .fld off sz ag x => match o.op with | .field T x' k => (match fieldAt P T k with | some f => f.offset == off && aggT P f.type ag && sizeT P f.type sz | none => false) && chkArg N x' x | _ => false
  | .faddr off x => match o.op with | .fieldAddr T x' k => (match fieldAt P T k with | some f => f.offset == off && (P.info? f.type).any (·.size != 0) | none => false) && chkArg N x' x | _ => false
  | .iaddr sz x i => match o.op with | .indexAddr T x' i' => (match slT P T with | some e => sizeT P e sz | none => false) && decide (0 < sz) && chkArg N x' x && chkArg N i' i | _ => false
  | .iaddrA sz n x i => match o.op with | .indexAddr T x' i' => (match arrT P T with | some (n', e) => n' == n && sizeT P e sz | none => false) && chkArg N x' x && chkArg N i' i | _ => false
  | .load sz ag x => match o.op with | .load T x' => aggT P T ag && sizeT P T sz && chkArg N x' x | _ => false
  | .sliceS x lo hi => match o.op with | .slice T x' lo' hi' none => strT P T && chkArg N x' x && chkO N lo' lo && chkO N hi' hi | _ => false
  | .slice sz x lo hi => match o.op with | .slice T x' lo' hi' none => (match slT P T with | some e => sizeT P e sz | none => false) && chkArg N x' x && chkO N lo' lo && chkO N hi' hi | _ => false
  | .build zero parts => match o.op with | .build T ps => zeroT P T zero && fieldsKnown P T && chkParts N (placeT P T) ps.toList parts | _ => false
  | .bslice sz ag n zero parts => match o.op with
    | .buildSlice T n' ps => (match slT P T with | some e => sizeT P e sz && bsZero P e (n * sz) zero | none => false) && n' == n && decide (0 < sz) && (ag || sz == 1) && decide (n * sz ≤ 16777216) && chkParts N (fun i => some (i * sz, sz)) ps.toList parts
    | _ => false
  | .ext x i => match o.op with | .extract x' i' => i' == i && chkArg N x' x | _ => false
  | .minmax mx xs => match callOp o with | some (.builtin b, xs', _) => decide (b = if mx then .max else .min) && chkArgs N xs' xs | _ => false
  | .clos f caps => match o.op with | .makeFunc (.func f') first caps' => f' == N.fn f && first.toList.isEmpty && chkArgs N caps'.toList caps | _ => false
  | .call f args => match callOp o with | some (.value f', xs', _) => chkArg N f' f && chkArgs N xs' args | _ => false

section
variable {Γ : Ctx} {N : Names} {P : Program} {w : World} {S : Nat → Prop} {μ : Nat → Value} {H : Heap} {σ : Nat → AV} {a : Act}

theorem Env.Rel.args (he : Env.Rel Γ N w S μ H σ a) : ∀ {xs ys}, chkArgs N xs ys = true → All2 (fun u v => RelV N.fn w S μ H v u) (xs.map a.eval) (ys.map (Arg.ev Γ σ))
  | [], [], _ => trivial
  | x :: xs, y :: ys, h => by
    simp only [chkArgs, Bool.and_eq_true] at h
    exact ⟨he.arg h.1, he.args h.2⟩
  | [], _ :: _, h => by cases h
  | _ :: _, [], h => by cases h
theorem Env.Rel.opt (he : Env.Rel Γ N w S μ H σ a) : ∀ {x y}, chkO N x y = true → RelO N.fn w S μ H (y.map (Arg.ev Γ σ)) (x.map a.eval)
  | none, none, _ => trivial
  | some x, some y, h => he.arg h
  | none, some _, h => by cases h
  | some _, none, h => by cases h
theorem Env.Rel.parts (he : Env.Rel Γ N w S μ H σ a) {pl : Nat → Option (Nat × Nat)} : ∀ {xs ys}, chkParts N pl xs ys = true →
    All2 (fun (x : Nat × Value) (y : Nat × Nat × AV) => pl x.1 = some (y.1, y.2.1) ∧ RelV N.fn w S μ H y.2.2 x.2) (xs.map fun x => (x.1, a.eval x.2)) (ys.map fun q => (q.off, q.sz, q.arg.ev Γ σ))
  | [], [], _ => trivial
  | x :: xs, y :: ys, h => by
    simp only [chkParts, Bool.and_eq_true] at h
    obtain ⟨⟨h1, h2⟩, h3⟩ := h
    refine ⟨⟨?_, he.arg h2⟩, he.parts h3⟩
    split at h1
    · rename_i r hr
      simp only [Bool.and_eq_true, beq_iff_eq] at h1
      rw [hr]
      exact congrArg some (Prod.ext h1.1 h1.2)
    · cases h1
  | [], _ :: _, h => by cases h
  | _ :: _, [], h => by cases h

/-- A quiet operation, carried out. -/
def QDone (N : Names) (P : Program) (w : World) (S : Nat → Prop) (μ : Nat → Value) (H : Heap) (o : Oper) (a : Act) (v : AV) : Prop :=
  ∃ u w' S', (execOp a.eval o).run P w = .ok (.value u) w' ∧ Step N.fn w S μ H w' S' μ H ∧ RelV N.fn w' S' μ H v u

theorem QDone.of (hr : Rel N.fn w S μ H) {o : Oper} {v : AV} {r : Sem Value} (he : execOp a.eval o = (do pure (.value (← r)))) (h : ∃ u, r.run P w = .ok u w ∧ RelV N.fn w S μ H v u) : QDone N P w S μ H o a v := by
  obtain ⟨u, h1, h2⟩ := h
  exact ⟨u, w, S, by simp [he, h1], .refl hr, h2⟩
theorem QDone.val (hr : Rel N.fn w S μ H) {o : Oper} {v : AV} {u : Value} (he : execOp a.eval o = pure (.value u)) (h : RelV N.fn w S μ H v u) : QDone N P w S μ H o a v :=
  ⟨u, w, S, by simp [he], .refl hr, h⟩

theorem exec_builtin {o : Oper} {b : Builtin} {xs : List Operand} {Ts : List TypeId} (h : callOp o = some (.builtin b, xs, Ts)) :
    ∃ cs, execOp a.eval o = Go.builtin b Ts.toArray o.type cs (xs.map a.eval).toArray := by
  unfold callOp at h
  split at h
  · rename_i c hc
    simp only [Option.some.injEq, Prod.mk.injEq] at h
    obtain ⟨h1, h2, h3⟩ := h
    refine ⟨c.args.map fun | .const _ => true | _ => false, ?_⟩
    have e1 : Ts.toArray = c.argTypes := by rw [← h3]
    have e2 : (xs.map a.eval).toArray = c.args.map a.eval := by rw [← h2, ← Array.toList_map]
    rw [e1, e2]
    simp only [execOp, hc, Go.resolve, h1]
    rfl
  · cases h

theorem q_sound {o : Oper} {q : QOp} {v : AV} {call : Nat → List AV → Heap → Option (List AV × Heap)} (hq : ∀ f args, q ≠ .call f args) (hc : chkQ P N o q = true) (he : Env.Rel Γ N w S μ H σ a) (hr : Rel N.fn w S μ H)
    (hv : evQ Γ call σ H q = some v) : QDone N P w S μ H o a v := by
  cases q with
  | mov x =>
    simp only [chkQ] at hc
    simp only [evQ, Option.some.injEq] at hv; subst hv
    split at hc
    · rename_i y hy; exact .val hr (by simp only [execOp, hy]) (he.arg hc)
    · rename_i y hy; exact .val hr (by simp only [execOp, hy]) (he.arg hc)
    · cases hc
  | pick c x y =>
    simp only [chkQ] at hc
    split at hc
    · rename_i c' x' y' hy
      simp only [Bool.and_eq_true] at hc
      obtain ⟨u, h1, h2⟩ := q_pick (P := P) he hc.1.1 hc.1.2 hc.2 hv
      exact ⟨u, w, S, by simp only [execOp, hy]; exact h1, .refl hr, h2⟩
    · cases hc
  | nilchk x =>
    simp only [chkQ] at hc
    split at hc
    · rename_i y hy
      have hx := he.arg hc
      obtain ⟨rfl, h⟩ := q_nilchk hx hv
      refine .val hr (u := a.eval y) ?_ hx
      simp only [execOp, hy]
      rcases h with ⟨ad, h⟩ | ⟨f, cs, h⟩ <;> simp only [h]
    · cases hc
  | bin op x y =>
    simp only [chkQ] at hc
    split at hc
    · rename_i op' T x' y' _ hy
      simp only [Bool.and_eq_true, decide_eq_true_eq] at hc
      obtain ⟨⟨rfl, h1⟩, h2⟩ := hc
      exact .of hr (by simp only [execOp, hy]) (q_bin (T := T) (he.arg h1) (he.arg h2) hv)
    · cases hc
  | eqs ks neg x y =>
    simp only [chkQ] at hc
    split at hc
    · rename_i op' T x' y' _ hy
      simp only [Bool.and_eq_true, decide_eq_true_eq] at hc
      obtain ⟨⟨⟨h0, ht⟩, h1⟩, h2⟩ := hc
      exact .of hr (by simp only [execOp, hy]) (q_eqs h0 ht (he.arg h1) (he.arg h2) hv)
    · cases hc
  | eqk kd neg x y =>
    simp only [chkQ] at hc
    split at hc
    · rename_i op' T x' y' _ hy
      simp only [Bool.and_eq_true, decide_eq_true_eq] at hc
      obtain ⟨⟨⟨h0, ht⟩, h1⟩, h2⟩ := hc
      exact .of hr (by simp only [execOp, hy]) (q_eqk h0 ht (he.arg h1) (he.arg h2) hv)
    · cases hc
  | un op x =>
    simp only [chkQ] at hc
    split at hc
    · rename_i op' T x' hy
      simp only [Bool.and_eq_true, decide_eq_true_eq] at hc
      obtain ⟨rfl, h1⟩ := hc
      exact .of hr (by simp only [execOp, hy]) (q_un (he.arg h1) hv)
    · cases hc
  | conv k x =>
    simp only [chkQ] at hc
    split at hc
    · rename_i s d x' hy
      simp only [Bool.and_eq_true] at hc
      obtain ⟨⟨h1, h2⟩, h3⟩ := hc
      obtain ⟨k0, h1⟩ := Option.isSome_iff_exists.1 h1
      exact .of hr (by simp only [execOp, hy]) (q_conv h1 (intIs_spec h2) (he.arg h3) hv)
    · cases hc
  | runeStr x =>
    simp only [chkQ] at hc
    split at hc
    · rename_i s d x' hy
      simp only [Bool.and_eq_true] at hc
      obtain ⟨⟨h1, h2⟩, h3⟩ := hc
      obtain ⟨k0, h1⟩ := Option.isSome_iff_exists.1 h1
      exact .of hr (by simp only [execOp, hy]) (q_runeStr h1 h2 (he.arg h3) hv)
    · cases hc
  | same x =>
    simp only [chkQ] at hc
    split at hc
    · rename_i s d x' hy
      simp only [Bool.and_eq_true] at hc
      exact .of hr (by simp only [execOp, hy]) (q_same hc.1.1 hc.1.2 (he.arg hc.2) hv)
    · cases hc
  | strOf x =>
    simp only [chkQ] at hc
    split at hc
    · rename_i s d x' hy
      simp only [Bool.and_eq_true] at hc
      obtain ⟨⟨h1, h2⟩, h3⟩ := hc
      split at h1
      · rename_i e hs
        exact .of hr (by simp only [execOp, hy]) (q_strOf hr hs (intIs_spec h1) h2 (he.arg h3) hv)
      · cases h1
    · cases hc
  | len s x =>
    simp only [chkQ] at hc
    split at hc
    · rename_i x' T hy
      simp only [Bool.and_eq_true] at hc
      obtain ⟨h1, h2⟩ := hc
      obtain ⟨cs, hx⟩ := exec_builtin (a := a) hy
      simp only [evQ, Option.map_eq_some_iff] at hv
      obtain ⟨n, hn, rfl⟩ := hv
      refine .of hr (r := Go.Builtin.len_ #[T] o.type #[a.eval x']) (by rw [hx]; rfl) ⟨_, q_len (t0 := o.type) hr ?_ (he.arg h2) hn, .p _ _ (.int _ _)⟩
      cases s <;> simpa using h1
    · cases hc
  | idx x i =>
    simp only [chkQ] at hc
    split at hc
    · rename_i T x' i' hy
      simp only [Bool.and_eq_true] at hc
      exact .of hr (by simp only [execOp, hy]) (q_idx hc.1.1 (he.arg hc.1.2) (he.arg hc.2) hv)
    · cases hc
  | aidx sz ag n x i =>
    simp only [chkQ] at hc
    split at hc
    · rename_i T x' i' hy
      simp only [Bool.and_eq_true] at hc
      obtain ⟨⟨h1, h2⟩, h3⟩ := hc
      split at h1
      · rename_i n' e hT
        simp only [Bool.and_eq_true, beq_iff_eq] at h1
        obtain ⟨⟨rfl, h4⟩, h5⟩ := h1
        exact .of hr (by simp only [execOp, hy]) (q_aidx hT (aggT_spec h4) (sizeT_spec h5) (he.arg h2) (he.arg h3) hv)
      · cases h1
    · cases hc
  | fld off sz ag x =>
    simp only [chkQ] at hc
    split at hc
    · rename_i T x' k hy
      simp only [Bool.and_eq_true] at hc
      obtain ⟨h1, h2⟩ := hc
      split at h1
      · rename_i f hf
        obtain ⟨fs, hT, hf⟩ := fieldAt_spec hf
        simp only [Bool.and_eq_true, beq_iff_eq] at h1
        obtain ⟨⟨ho, h4⟩, h5⟩ := h1
        exact .of hr (by simp only [execOp, hy]) (q_fld hT hf ho (aggT_spec h4) (sizeT_spec h5) (he.arg h2) hv)
      · cases h1
    · cases hc
  | faddr off x =>
    simp only [chkQ] at hc
    split at hc
    · rename_i T x' k hy
      simp only [Bool.and_eq_true] at hc
      obtain ⟨h1, h2⟩ := hc
      split at h1
      · rename_i f hf
        obtain ⟨fs, hT, hf⟩ := fieldAt_spec hf
        simp only [Bool.and_eq_true, beq_iff_eq] at h1
        exact .of hr (by simp only [execOp, hy]) (q_faddr hT hf h1.1 h1.2 (he.arg h2) hv)
      · cases h1
    · cases hc
  | iaddr sz x i =>
    simp only [chkQ] at hc
    split at hc
    · rename_i T x' i' hy
      simp only [Bool.and_eq_true, decide_eq_true_eq] at hc
      obtain ⟨⟨⟨h1, h0⟩, h2⟩, h3⟩ := hc
      split at h1
      · rename_i e hT
        exact .of hr (by simp only [execOp, hy]) (q_iaddr h0 hr hT (sizeT_spec h1) (he.arg h2) (he.arg h3) hv)
      · cases h1
    · cases hc
  | iaddrA sz n x i =>
    simp only [chkQ] at hc
    split at hc
    · rename_i T x' i' hy
      simp only [Bool.and_eq_true] at hc
      obtain ⟨⟨h1, h2⟩, h3⟩ := hc
      split at h1
      · rename_i n' e hT
        simp only [Bool.and_eq_true, beq_iff_eq] at h1
        obtain ⟨rfl, h5⟩ := h1
        exact .of hr (by simp only [execOp, hy]) (q_iaddrA hT (sizeT_spec h5) (he.arg h2) (he.arg h3) hv)
      · cases h1
    · cases hc
  | load sz ag x =>
    simp only [chkQ] at hc
    split at hc
    · rename_i T x' hy
      simp only [Bool.and_eq_true] at hc
      exact .of hr (by simp only [execOp, hy]) (q_load hr (aggT_spec hc.1.1) (sizeT_spec hc.1.2) (he.arg hc.2) hv)
    · cases hc
  | sliceS x lo hi =>
    simp only [chkQ] at hc
    split at hc
    · rename_i T x' lo' hi' hy
      simp only [Bool.and_eq_true] at hc
      obtain ⟨⟨⟨h1, h2⟩, h3⟩, h4⟩ := hc
      exact .of hr (by simp only [execOp, hy]; rfl) (q_sliceS h1 (he.arg h2) (he.opt h3) (he.opt h4) hv)
    · cases hc
  | slice sz x lo hi =>
    simp only [chkQ] at hc
    split at hc
    · rename_i T x' lo' hi' hy
      simp only [Bool.and_eq_true] at hc
      obtain ⟨⟨⟨h1, h2⟩, h3⟩, h4⟩ := hc
      split at h1
      · rename_i e hT
        exact .of hr (by simp only [execOp, hy]; rfl) (q_slice hT (sizeT_spec h1) (he.arg h2) (he.opt h3) (he.opt h4) hv)
      · cases h1
    · cases hc
  | build zero parts =>
    simp only [chkQ] at hc
    split at hc
    · rename_i T ps hy
      simp only [Bool.and_eq_true] at hc
      obtain ⟨⟨h1, h2⟩, h3⟩ := hc
      simp only [evQ, Option.map_eq_some_iff] at hv
      obtain ⟨res, hv, rfl⟩ := hv
      refine .of hr (r := Go.Instr.build T (ps.toList.map fun x => (x.1, a.eval x.2)).toArray) ?_ (q_build h1 h2 (he.parts h3) hv)
      simp only [execOp, hy]
      have : (ps.toList.map fun x => (x.1, a.eval x.2)).toArray = ps.map fun x => (x.1, a.eval x.2) := by rw [← Array.toList_map]
      rw [this]
    · cases hc
  | bslice sz ag n zero parts =>
    simp only [chkQ] at hc
    split at hc
    · rename_i T n' ps hy
      simp only [Bool.and_eq_true, decide_eq_true_eq, beq_iff_eq, Bool.or_eq_true] at hc
      obtain ⟨⟨⟨⟨⟨h1, rfl⟩, h0⟩, hag⟩, hn⟩, h3⟩ := hc
      split at h1
      · rename_i e hT
        simp only [Bool.and_eq_true] at h1
        have hag' : ag = false → sz = 1 := fun e => by
          rcases hag with h | h
          · rw [h] at e; cases e
          · exact h
        obtain ⟨us, h4, h5⟩ := q_bslice (N := N) (μ := μ) (H := H) (parts := ps.toList.map fun x => (x.1, a.eval x.2)) hr.lt hT (sizeT_spec h1.1) h0 hag' (by omega) h1.2
          (by
            have := he.parts h3
            refine this.imp fun x y hxy => ⟨?_, hxy.2⟩
            simpa using hxy.1) hv
        refine ⟨_, _, _, ?_, .grow hr (Grows.alloc w _) (fun g h => .inl h) (fun g h => ?_) (fun g h => ?_), h5⟩
        · have e1 : (ps.toList.map fun x => (x.1, a.eval x.2)).toArray = ps.map fun x => (x.1, a.eval x.2) := by rw [← Array.toList_map]
          rw [e1] at h4
          simp only [execOp, hy]
          simp [h4]
        · rcases h with h | h
          · exact Nat.lt_of_lt_of_le (hr.lt g h) (Grows.alloc w _).size
          · subst h; simp
        · rcases h with h | h
          · exact .inl h
          · exact .inr (by omega)
      · cases h1
    · cases hc
  | ext x i =>
    simp only [chkQ] at hc
    split at hc
    · rename_i x' i' hy
      simp only [Bool.and_eq_true, beq_iff_eq] at hc
      obtain ⟨rfl, h2⟩ := hc
      exact .of hr (by simp only [execOp, hy]) (q_ext (he.arg h2) hv)
    · cases hc
  | minmax mx xs =>
    simp only [chkQ] at hc
    split at hc
    · rename_i b xs' Ts hy
      simp only [Bool.and_eq_true, decide_eq_true_eq] at hc
      obtain ⟨rfl, h2⟩ := hc
      obtain ⟨cs, hx⟩ := exec_builtin (a := a) hy
      have := q_minmax (P := P) (mx := mx) (t0 := o.type) (ts := Ts.toArray) (he.args h2) hv
      refine .of hr (r := if mx then Go.Builtin.max_ Ts.toArray o.type (xs'.map a.eval).toArray else Go.Builtin.min_ Ts.toArray o.type (xs'.map a.eval).toArray) ?_ this
      rw [hx]
      cases mx <;> rfl
    · cases hc
  | clos f caps =>
    simp only [chkQ] at hc
    split at hc
    · rename_i f' first caps' hy
      simp only [Bool.and_eq_true, beq_iff_eq, List.isEmpty_iff] at hc
      obtain ⟨⟨rfl, h1⟩, h2⟩ := hc
      have hf : first = #[] := by simpa using h1
      simp only [evQ, ifB] at hv
      split at hv
      · rename_i hall
        simp only [Option.some.injEq] at hv; subst hv
        have := q_clos (f := f) (he.args h2) (fun c hc => List.all_eq_true.1 hall c hc)
        have e1 : (caps'.toList.map a.eval).toArray = caps'.map a.eval := by rw [← Array.toList_map]
        rw [e1] at this
        refine .of hr (r := pure (.func (.func (N.fn f)) #[] (caps'.map a.eval))) ?_ ⟨_, by simp, this⟩
        simp only [execOp, hy, hf, Go.Instr.makeFunc]
        simp
      · cases hv
    · cases hc
  | call f args => exact absurd rfl (hq f args)
  | bad => cases hv
end
end Ab
/- Operations that change memory: checks and soundness. -/
namespace Ab
open Go (IntKind BinOp UnOp World Value Addr Obj undef maxLen Program TypeId Oper Op Operand Act Sem Next Result execOp Builtin)

/-- What is asked of the type of a row's elements. -/
def rowT (P : Program) (e : TypeId) (sz : Nat) : Bool :=
  match P.info? e with
  | some i => i.size == sz && decide (i.bytes ≤ 65536) && (match i.zero with | some z => z.cells.size == sz | none => false)
  | none => false
theorem rowT_spec {P e sz} (h : rowT P e sz = true) : ∃ i z, P.info? e = some i ∧ i.size = sz ∧ i.bytes ≤ 65536 ∧ i.zero = some z ∧ z.cells.size = sz := by
  unfold rowT at h
  split at h
  · rename_i i hi
    simp only [Bool.and_eq_true, beq_iff_eq, decide_eq_true_eq] at h
    obtain ⟨⟨h1, h2⟩, h3⟩ := h
    split at h3
    · rename_i z hz
      simp only [beq_iff_eq] at h3
      exact ⟨i, z, hi, h1, h2, hz, h3⟩
    · cases h3
  · cases h

def chkX (P : Program) (N : Names) (o : Oper) : XOp → Bool
  | .alloc zero => match o.op with | .alloc T => zeroT P T zero | _ => false
  | .box x => match o.op with | .box _ x' => chkArg N x' x | _ => false
  | .store sz x v => match o.op with | .store T x' v' => sizeT P T sz && chkArg N x' x && chkArg N v' v | _ => false
  | .mkslice sz ag zero n c => match o.op with
    | .makeSlice T n' c' => (match slT P T with | some e => rowT P e sz && zeroT P e zero | none => false) && zero.length == sz && decide (0 < sz) && (ag || sz == 1) && chkArg N n' n && chkArg N c' c
    | _ => false
  | .newrow sz => match o.op with | .assign (.const (.slice none 0 0)) => decide (0 < sz) | _ => false
  | .append sz x y => match callOp o with
    | some (.builtin .append, [x', y'], [T, T']) => T' == T && (match slT P T with | some e => rowT P e sz | none => false) && decide (0 < sz) && chkArg N x' x && chkArg N y' y
    | _ => false
  | .slicef sz x lo hi => match o.op with | .slice T x' lo' hi' none => (match slT P T with | some e => sizeT P e sz | none => false) && chkArg N x' x && chkO N lo' lo && chkO N hi' hi | _ => false
  | .range x => match o.op with | .range T x' => strT P T && chkArg N x' x | _ => false
  | .next x => match o.op with | .next x' true => chkArg N x' x | _ => false
  | .callf f args => match callOp o with | some (.value f', xs', _) => chkArg N f' f && chkArgs N xs' args | _ => false
  | _ => false

def chkOp (P : Program) (N : Names) (o : Oper) : QOp ⊕ XOp → Bool
  | .inl q => chkQ P N o q
  | .inr x => chkX P N o x

section
variable {Γ : Ctx} {N : Names} {P : Program} {w : World} {S : Nat → Prop} {μ : Nat → Value} {H : Heap} {σ : Nat → AV} {a : Act}

/-- What a value becomes behind an operation that yields nothing. -/
def Yield (r : Result Next) (u : Value) (w : World) : Prop := r = .ok (.value u) w ∨ (r = .ok .skip w ∧ u = undef)

def XDone (N : Names) (P : Program) (w : World) (S : Nat → Prop) (μ : Nat → Value) (H : Heap) (o : Oper) (a : Act) (v : AV) (H' : Heap) : Prop :=
  ∃ u w' S' μ', Yield ((execOp a.eval o).run P w) u w' ∧ Step N.fn w S μ H w' S' μ' H' ∧ RelV N.fn w' S' μ' H' v u

theorem XDone.of {o : Oper} {r : Sem Value} {v : AV} {H' : Heap} (he : execOp a.eval o = (do pure (.value (← r)))) (h : ∃ u w' μ', r.run P w = .ok u w' ∧ Step N.fn w S μ H w' S μ' H' ∧ RelV N.fn w' S μ' H' v u) : XDone N P w S μ H o a v H' := by
  obtain ⟨u, w', μ', h1, h2, h3⟩ := h
  exact ⟨u, w', S, μ', .inl (by simp [he, h1]), h2, h3⟩

def XOp.known : XOp → Bool
  | .callf _ _ | .calls _ _ => false
  | _ => true

theorem x_sound {o : Oper} {x : XOp} {v : AV} {H' : Heap} {cal : Nat → List AV → Heap → Option (List AV × Heap)} (hq : x.known = true) (hc : chkX P N o x = true) (he : Env.Rel Γ N w S μ H σ a) (hr : Rel N.fn w S μ H)
    (hv : evX Γ cal σ H x = some (v, H')) : XDone N P w S μ H o a v H' := by
  cases x with
  | alloc zero =>
    simp only [chkX] at hc
    simp only [evX, Option.some.injEq, Prod.mk.injEq] at hv
    obtain ⟨rfl, rfl⟩ := hv
    split at hc
    · rename_i T hy; exact .of (by simp only [execOp, hy]) (x_alloc hr hc)
    · cases hc
  | box x =>
    simp only [chkX] at hc
    split at hc
    · rename_i T x' hy; exact .of (r := Go.Instr.box T (a.eval x')) (by simp only [execOp, hy]) (x_box hr (he.arg hc) hv)
    · cases hc
  | store sz x y =>
    simp only [chkX] at hc
    simp only [evX, Option.map_eq_some_iff, Prod.mk.injEq] at hv
    obtain ⟨H1, hv, rfl, rfl⟩ := hv
    split at hc
    · rename_i T x' y' hy
      simp only [Bool.and_eq_true] at hc
      obtain ⟨w', μ', h1, h2⟩ := x_store hr (sizeT_spec hc.1.1) (he.arg hc.1.2) (he.arg hc.2) hv
      exact ⟨undef, w', S, μ', .inr ⟨by simp [execOp, hy, h1], rfl⟩, h2, .nov⟩
    · cases hc
  | mkslice sz ag zero n c =>
    simp only [chkX] at hc
    split at hc
    · rename_i T n' c' hy
      simp only [Bool.and_eq_true, decide_eq_true_eq, beq_iff_eq, Bool.or_eq_true] at hc
      obtain ⟨⟨⟨⟨⟨h1, h2⟩, h3⟩, hag⟩, h4⟩, h5⟩ := hc
      split at h1
      · rename_i e hT
        simp only [Bool.and_eq_true] at h1
        obtain ⟨i, z, hi, hsz, hb, _, _⟩ := rowT_spec h1.1
        have hag' : ag = false → sz = 1 := fun e => by
          rcases hag with h | h
          · rw [h] at e; cases e
          · exact h
        exact .of (by simp only [execOp, hy]) (x_mkslice hr hT hi hsz h1.2 h2 h3 hag' hb (he.arg h4) (he.arg h5) hv)
      · cases h1
    · cases hc
  | newrow sz =>
    simp only [chkX] at hc
    simp only [evX, Option.some.injEq, Prod.mk.injEq] at hv
    obtain ⟨rfl, rfl⟩ := hv
    split at hc
    · rename_i hy
      obtain ⟨μ', h1, h2⟩ := x_newrow hr (of_decide_eq_true hc)
      exact ⟨_, w, S, μ', .inl (by simp [execOp, hy]; rfl), h1, h2⟩
    · cases hc
  | append sz x y =>
    simp only [chkX] at hc
    split at hc
    · rename_i x' y' T T' hy
      simp only [Bool.and_eq_true, decide_eq_true_eq, beq_iff_eq] at hc
      obtain ⟨⟨⟨⟨rfl, h1⟩, h0⟩, h2⟩, h3⟩ := hc
      split at h1
      · rename_i e hT
        obtain ⟨i, z, hi, hsz, hb, hz, hzs⟩ := rowT_spec h1
        obtain ⟨cs, hx⟩ := exec_builtin (a := a) hy
        simp only [evX, Option.bind_eq_some_iff] at hv
        obtain ⟨ys, hys, hv⟩ := hv
        obtain ⟨news, h4, h5⟩ := elems_src hr h0 (he.arg h3) hys
        obtain ⟨v', w', μ', h6⟩ := x_appendA (ty := o.type) hr (slT_spec hT) hi hz hsz hzs h0 hb (he.arg h2) h4 h5 hv
        refine .of (r := Builtin.append_ #[T', T'] o.type #[a.eval x', a.eval y']) (by rw [hx]; rfl) ⟨v', w', μ', h6⟩
      · cases h1
    · cases hc
  | range x =>
    simp only [chkX] at hc
    split at hc
    · rename_i T x' hy
      simp only [Bool.and_eq_true] at hc
      exact .of (by simp only [execOp, hy]) (x_range hr hc.1 (he.arg hc.2) hv)
    · cases hc
  | next x =>
    simp only [chkX] at hc
    split at hc
    · rename_i x' hy
      exact .of (r := Go.Instr.next (a.eval x') true o.type) (by simp only [execOp, hy]) (x_next hr (he.arg hc) hv)
    · cases hc
  | appendS x y => cases hc
  | copy sz x y => cases hc
  | bytesOf x => cases hc
  | slicef sz x lo hi =>
    simp only [chkX] at hc
    split at hc
    · rename_i T x' lo' hi' hy
      simp only [Bool.and_eq_true] at hc
      obtain ⟨⟨⟨h1, h2⟩, h3⟩, h4⟩ := hc
      split at h1
      · rename_i e hT
        obtain ⟨u, w', S', μ', g1, g2, g3⟩ := x_slicef hr hT (sizeT_spec h1) (he.arg h2) (he.opt h3) (he.opt h4) hv
        have hex : execOp a.eval o = (do pure (.value (← Go.Instr.sliceAt T (a.eval x') (lo'.map a.eval) (hi'.map a.eval) none))) := by simp only [execOp, hy]; rfl
        exact ⟨u, w', S', μ', .inl (by simp [hex, g1]), g2, g3⟩
      · cases h1
    · cases hc
  | callf f args => cases hq
  | calls f args => cases hq
end
end Ab
/- Calls. -/
namespace Ab
open Go (IntKind BinOp UnOp World Value Addr Obj undef maxLen Program TypeId Oper Op Operand Act Sem Next Result execOp Builtin Calls Ending Exit)

/-- What a function hands back. -/
def resVal : List Value → Value
  | [v] => v
  | vs => .tuple vs.toArray


def Enters (P : Program) (f : Nat) : Prop := ∀ us w, (Go.callFunc f us).run P w = .ok (.enter f us) w

/-- A call hands back a value: by the function's own code, or by the model's row for it. -/
def Does (P : Program) (f : Nat) (us : Array Value) (w : World) (R : Value → World → Prop) : Prop :=
  ((Go.callFunc f us).run P w = .ok (.enter f us) w ∧ Calls P f us w fun e w' => ∃ v, e = .returned v ∧ R v w') ∨ ∃ v w', (Go.callFunc f us).run P w = .ok (.value v) w' ∧ R v w'
theorem Does.mono {P : Program} {f : Nat} {us : Array Value} {w : World} {R R' : Value → World → Prop} (h : Does P f us w R) (hr : ∀ v w', R v w' → R' v w') : Does P f us w R' := by
  rcases h with ⟨h1, h2⟩ | ⟨v, w', h1, h2⟩
  · exact .inl ⟨h1, h2.mono fun e w' ⟨v, e1, e2⟩ => ⟨v, e1, hr v w' e2⟩⟩
  · exact .inr ⟨v, w', h1, hr v w' h2⟩

/-- What is left when blocks have new numbers. -/
structure Run (ν : Nat → Nat) (w : World) (S : Nat → Prop) (μ : Nat → Value) (H : Heap) (w' : World) (S' : Nat → Prop) (μ' : Nat → Value) (H' : Heap) : Prop where
  rel : Rel ν w' S' μ' H'
  ext : Ext w S μ H w' S' μ' H'
theorem Step.run {ν w S μ H w' S' μ' H'} (h : Step ν w S μ H w' S' μ' H') : Run ν w S μ H w' S' μ' H' := ⟨h.rel, h.ext⟩
theorem Run.trans {ν w S μ H w1 S1 μ1 H1 w2 S2 μ2 H2} (a : Run ν w S μ H w1 S1 μ1 H1) (b : Run ν w1 S1 μ1 H1 w2 S2 μ2 H2) : Run ν w S μ H w2 S2 μ2 H2 := ⟨b.rel, a.ext.trans b.ext⟩
theorem Run.refl {ν w S μ H} (h : Rel ν w S μ H) : Run ν w S μ H w S μ H := ⟨h, Ext.refl⟩

/-- What is known of calls: what the abstract machine answers, the model answers. -/
def CallOk (Γ : Ctx) (N : Names) (P : Program) (cal : Nat → List AV → Heap → Option (List AV × Heap)) : Prop :=
  ∀ f args H rs H', cal f args H = some (rs, H') → ∀ w S μ us, Rel N.fn w S μ H → GlRel Γ N w S → All2 (fun u x => RelV N.fn w S μ H x u) us args →
    Does P (N.fn f) us.toArray w (fun v w' => ∃ vs S' μ', v = resVal vs ∧ Run N.fn w S μ H w' S' μ' H' ∧ All2 (fun u x => RelV N.fn w' S' μ' H' x u) vs rs)

section
variable {Γ : Ctx} {N : Names} {P : Program} {w : World} {S T : Nat → Prop} {μ : Nat → Value} {H : Heap} {σ : Nat → AV} {a : Act}
  {cal : Nat → List AV → Heap → Option (List AV × Heap)}

theorem rel_nil (hT : ∀ g, T g → g < w.heap.size) : Rel N.fn w T (fun _ => undef) [] where
  lt := hT
  blk := by simp
  apart g h := by obtain ⟨id, h1, h2⟩ := h; simp at h2
  inj := by intro i j g h1 h2 h3; simp at h3

theorem All2.map_right {α β γ : Type} {R : α → γ → Prop} {f : β → γ} : ∀ {xs : List α} {ys : List β}, All2 (fun x y => R x (f y)) xs ys → All2 R xs (ys.map f)
  | [], [], _ => trivial
  | _ :: _, _ :: _, h => ⟨h.1, h.2.map_right⟩
  | [], _ :: _, h => by cases h
  | _ :: _, [], h => by cases h
theorem All2.append {α β : Type} {R : α → β → Prop} : ∀ {xs xs' : List α} {ys ys' : List β}, All2 R xs ys → All2 R xs' ys' → All2 R (xs ++ xs') (ys ++ ys')
  | [], _, [], _, _, h => h
  | _ :: _, _, _ :: _, _, h, h' => ⟨h.1, h.2.append h'⟩
  | [], _, _ :: _, _, h, _ => by cases h
  | _ :: _, _, [], _, h, _ => by cases h
theorem All2.of_get {α β : Type} {R : α → β → Prop} : ∀ {xs : List α} {ys : List β}, xs.length = ys.length → (∀ (j : Nat) x y, xs[j]? = some x → ys[j]? = some y → R x y) → All2 R xs ys
  | [], [], _, _ => trivial
  | x :: xs, y :: ys, h, h' => ⟨h' 0 x y rfl rfl, All2.of_get (by simpa using h) fun j a b ha hb => h' (j + 1) a b (by simpa using ha) (by simpa using hb)⟩
  | [], _ :: _, h, _ => by cases h
  | _ :: _, [], h, _ => by cases h
theorem All2.get {α β : Type} {R : α → β → Prop} : ∀ {xs : List α} {ys : List β}, All2 R xs ys → xs.length = ys.length ∧ ∀ (j : Nat) x y, xs[j]? = some x → ys[j]? = some y → R x y
  | [], [], _ => ⟨rfl, by simp⟩
  | x :: xs, y :: ys, h => by
    obtain ⟨h1, h2⟩ := h.2.get
    refine ⟨by simp [h1], fun j a b ha hb => ?_⟩
    cases j with
    | zero => simp only [List.getElem?_cons_zero, Option.some.injEq] at ha hb; subst ha hb; exact h.1
    | succ j => exact h2 j a b (by simpa using ha) (by simpa using hb)
  | [], _ :: _, h => by cases h
  | _ :: _, [], h => by cases h

theorem reify_all {d : Nat} {R : Value → PV → Prop} : ∀ {vs : List AV} {us : List Value} {ps : List PV}, All2 (fun u x => RelV N.fn w S μ H x u) us vs → mapO (reify H d) vs = some ps →
    (∀ v ∈ vs, ∀ u p, RelV N.fn w S μ H v u → reify H d v = some p → R u p) → All2 R us ps
  | [], [], ps, _, h, _ => by simp only [mapO, Option.some.injEq] at h; subst h; trivial
  | v :: vs, u :: us, ps, ha, h, hR => by
    simp only [mapO] at h
    split at h
    · rename_i p hp
      split at h
      · rename_i qs hqs
        simp only [Option.some.injEq] at h; subst h
        exact ⟨hR v (by simp) u p ha.1 hp, reify_all ha.2 hqs fun x hx => hR x (by simp [hx])⟩
      · cases h
    · cases h
  | [], _ :: _, _, h, _, _ => by cases h
  | _ :: _, [], _, h, _, _ => by cases h

/-- A call in memory of its own. -/
theorem pure_call (hcal : CallOk Γ N P cal) (hT : ∀ g, T g → g < w.heap.size) (hgl : GlRel Γ N w T) {f : Nat} {ps rs : List PV} {us : List Value} {r : List AV × Heap}
    (ha : All2 (fun u p => RelP N.fn w T p u) us ps) (hc : cal f (ps.map .p) [] = some r) (hrs : mapO (reify r.2 4) r.1 = some rs) :
    Does P (N.fn f) us.toArray w (fun v w' => ∃ vs, v = resVal vs ∧ Grows w w' ∧
      All2 (fun u p => RelP N.fn w' (fun g => T g ∨ (w.heap.size ≤ g ∧ g < w'.heap.size)) p u) vs rs) := by
  refine (hcal f _ _ r.1 r.2 hc w T (fun _ => undef) us (rel_nil hT) hgl (All2.map_right (ha.imp fun u p h => .p _ _ h))).mono ?_
  rintro e w' ⟨vs, S', μ', rfl, hs, hv⟩
  have no : ∀ g, ¬ alive (fun _ => undef) [] g := fun g h => by obtain ⟨id, h1, h2⟩ := h; simp at h2
  have hS' : ∀ g, S' g → T g ∨ (w.heap.size ≤ g ∧ g < w'.heap.size) := fun g h => by
    by_cases hg : g < w.heap.size
    · rcases hs.ext.new g h hg with h | h
      · exact .inl h
      · exact absurd h (no g)
    · exact .inr ⟨by omega, hs.rel.lt g h⟩
  refine ⟨vs, rfl, ⟨hs.ext.os, hs.ext.tape, hs.ext.output, hs.ext.size, fun g hg => hs.ext.keep g hg (no g)⟩, ?_⟩
  refine reify_all hv hrs fun v _ u p hvu hp => reify_rel hs.rel hS' (fun id b g hb hg => ?_) 4 hvu hp
  by_cases hl : g < w.heap.size
  · have : S' g := by
      have hbr := hs.rel.blk id b hb
      cases b with
      | box cs => exact absurd (hs.ext.own g ⟨id, hg, .inl ⟨cs, hb⟩⟩ hl) (no g)
      | row f sz xs =>
        cases f with
        | true => obtain ⟨_, _, us, _, _, _, h4⟩ := hbr; exact h4 rfl g hg
        | false => exact absurd (hs.ext.own g ⟨id, hg, .inr ⟨sz, xs, hb⟩⟩ hl) (no g)
    exact hS' g this
  · exact .inr ⟨by omega, hs.rel.blk_lt hb hg⟩

theorem results_rel {S' : Nat → Prop} {μ' : Nat → Value} {H' : Heap} : ∀ {vs : List Value} {rs : List AV}, All2 (fun u x => RelV N.fn w S' μ' H' x u) vs rs → RelV N.fn w S' μ' H' (results rs) (resVal vs)
  | [v], [r], h => h.1
  | [], [], _ => .tup [] #[] rfl (by simp)
  | v :: v' :: vs, r :: r' :: rs, h => by
    have := h.get
    refine .tup _ _ (by simpa using this.1) fun j c hc => ?_
    obtain ⟨h1, h2⟩ := this
    have hl : j < (v :: v' :: vs).length := by rw [h1]; exact (List.getElem?_eq_some_iff.1 hc).1
    have := h2 j _ c (List.getElem?_eq_getElem hl) hc
    simpa [Array.getD_eq_getD_getElem?, List.getElem?_eq_getElem hl] using this
  | [], _ :: _, h => by cases h
  | _ :: _, [], h => by cases h
  | [_], _ :: _ :: _, h => by cases h.2
  | _ :: _ :: _, [_], h => by cases h.2

theorem callee_rel {fv : AV} {u : Value} {fc : Nat × List AV} (h : RelV N.fn w S μ H fv u) (hc : callee fv = some fc) :
    ∃ us : Array Value, u = .func (.func (N.fn fc.1)) #[] us ∧ All2 (fun u x => RelV N.fn w S μ H x u) us.toList fc.2 := by
  unfold callee at hc
  split at hc
  · rename_i f cs
    simp only [Option.some.injEq] at hc; subst hc
    cases h with
    | p _ _ h =>
      cases h with
      | clo _ _ us h1 h2 h3 =>
        refine ⟨us, rfl, All2.map_right (.of_get (by simpa using h1) fun j x y hx hy => .p _ _ ?_)⟩
        have := h3 j y hy
        rwa [getD_array, List.getD_eq_getElem?_getD, hx] at this
  · rename_i f cs
    simp only [Option.some.injEq] at hc; subst hc
    cases h with
    | clo _ _ us h1 h2 h3 =>
      refine ⟨us, rfl, .of_get (by simpa using h1) fun j x y hx hy => ?_⟩
      have := h3 j y hy
      rwa [getD_array, List.getD_eq_getElem?_getD, hx] at this
  · cases hc

theorem exec_call {o : Oper} {f' : Operand} {xs : List Operand} {Ts : List TypeId} {g : Nat} {us : Array Value} (h : callOp o = some (.value f', xs, Ts)) (hf : a.eval f' = .func (.func g) #[] us) :
    (execOp a.eval o).run P w = (Go.callFunc g (xs.map a.eval ++ us.toList).toArray).run P w := by
  unfold callOp at h
  split at h
  · rename_i c hc
    simp only [Option.some.injEq, Prod.mk.injEq] at h
    obtain ⟨h1, h2, h3⟩ := h
    have e2 : c.args.map a.eval = (xs.map a.eval).toArray := by rw [← h2, ← Array.toList_map]
    have e3 : ((xs.map a.eval).toArray ++ us) = (xs.map a.eval ++ us.toList).toArray := by simp
    simp only [execOp, hc, Go.resolve, h1, Go.Deferred.ofValue, hf, Go.Sem.run_bind, Go.Sem.run_pure, Go.Result.andThen_ok, Go.invoke, e2, Array.empty_append, e3]
  · cases h

/-- A call, carried out. -/
def CDone (N : Names) (P : Program) (w : World) (S : Nat → Prop) (μ : Nat → Value) (H : Heap) (o : Oper) (a : Act) (v : AV) (H' : Heap) : Prop :=
  ∃ f us, (execOp a.eval o).run P w = (Go.callFunc f us).run P w ∧ Does P f us w fun u w' => ∃ S' μ', Step N.fn w S μ H w' S' μ' H' ∧ RelV N.fn w' S' μ' H' v u

theorem Env.Rel.glrel (he : Env.Rel Γ N w S μ H σ a) : GlRel Γ N w S := he.gl
theorem GlRel.more (h : GlRel Γ N w S) (hT : ∀ g, S g → T g) : GlRel Γ N w T := ⟨fun n cs hn => (h.rel n cs hn).more hT, h.whole⟩

theorem allP_spec : ∀ {l : List AV}, allP l = true → ∀ v ∈ l, ∃ p, v = .p p
  | [], _ => by simp
  | v :: l, h => by
    cases v <;> simp only [allP, Bool.false_eq_true] at h
    rename_i p
    intro x hx
    rcases List.mem_cons.1 hx with rfl | hx
    · exact ⟨p, rfl⟩
    · exact allP_spec h x hx

theorem callee_p {fv : AV} {fc : Nat × List AV} (hp : fv.isP = true) (hc : callee fv = some fc) : ∀ v ∈ fc.2, ∃ p, v = .p p := by
  unfold callee at hc
  split at hc
  · simp only [Option.some.injEq] at hc; subst hc
    intro v hv
    obtain ⟨x, _, rfl⟩ := List.mem_map.1 hv
    exact ⟨x, rfl⟩
  · cases hp
  · cases hc

theorem call_sound (hcal : CallOk Γ N P cal) {o : Oper} {f : Arg} {args : List Arg} {v : AV} (hc : chkQ P N o (.call f args) = true) (he : Env.Rel Γ N w S μ H σ a) (hr : Rel N.fn w S μ H)
    (hv : evQ Γ cal σ H (.call f args) = some v) : CDone N P w S μ H o a v H := by
  simp only [chkQ] at hc
  split at hc
  rotate_left
  · cases hc
  rename_i f' xs' Ts hy
  simp only [Bool.and_eq_true] at hc
  have hf := he.arg hc.1
  have ha := he.args hc.2
  simp only [evQ, callP, Option.bind_eq_some_iff] at hv
  obtain ⟨rs, ⟨fc, hfc, ps, hps, r, hcr, hrs⟩, hv⟩ := hv
  simp only [ifB] at hv
  split at hv
  rotate_left
  · cases hv
  rename_i hB
  simp only [Option.some.injEq] at hv; subst hv
  obtain ⟨caps, hcl, hcaps⟩ := callee_rel hf hfc
  have hall := ha.append hcaps
  by_cases hA : (allP (args.map (Arg.ev Γ σ)) && (f.ev Γ σ).isP) = true
  · simp only [Bool.and_eq_true] at hA
    have hall' : All2 (fun u p => RelP N.fn w S p u) (xs'.map a.eval ++ caps.toList) ps := reify_all hall hps fun v hv u p hvu hp => by
      have : ∃ q, v = .p q := by
        rcases List.mem_append.1 hv with h | h
        · exact allP_spec hA.1 v h
        · exact callee_p hA.2 hfc v h
      obtain ⟨q, rfl⟩ := this
      simp only [reify, Option.some.injEq] at hp; subst hp
      exact hvu.p_inv
    have h2 := pure_call hcal hr.lt he.glrel hall' hcr hrs
    refine ⟨_, _, exec_call hy hcl, h2.mono ?_⟩
    rintro e w' ⟨vs, rfl, hg, hvs⟩
    refine ⟨_, μ, .grow hr hg (fun g h => .inl h) (fun g h => ?_) (fun g h => ?_), results_rel (All2.map_right (hvs.imp fun u p h => .p _ _ h))⟩
    · rcases h with h | h
      · exact Nat.lt_of_lt_of_le (hr.lt g h) hg.size
      · exact h.2
    · rcases h with h | h
      · exact .inl h
      · exact .inr h.1
  · have hfl : rs.all flat = true := by
      rcases Bool.or_eq_true_iff.1 hB with h | h
      · exact absurd h hA
      · exact h
    have hall' : All2 (fun u p => RelP N.fn w (fun g => g < w.heap.size) p u) (xs'.map a.eval ++ caps.toList) ps := reify_all hall hps fun v hv u p hvu hp =>
      reify_rel hr hr.lt (fun id b g hb hg => hr.blk_lt hb hg) 4 hvu hp
    have h2 := pure_call hcal (fun g h => h) (he.glrel.more hr.lt) hall' hcr hrs
    refine ⟨_, _, exec_call hy hcl, h2.mono ?_⟩
    rintro e w' ⟨vs, rfl, hg, hvs⟩
    refine ⟨S, μ, .grow hr hg (fun g h => h) (fun g h => Nat.lt_of_lt_of_le (hr.lt g h) hg.size) (fun g h => .inl h), results_rel (All2.map_right ?_)⟩
    have := hvs.get
    refine .of_get this.1 fun j u p hu hp => .p _ _ (flat_rel (List.all_eq_true.1 hfl p (List.mem_of_getElem? hp)) (this.2 j u p hu hp))

theorem rowsOnly_spec : ∀ {l : List AV}, rowsOnly l = true → ∀ v ∈ l, (∃ p, v = .p p) ∨ ∃ id n, v = .own id n
  | [], _ => by simp
  | v :: l, h => by
    cases v <;> simp only [rowsOnly, Bool.false_eq_true] at h
    · rename_i p
      intro x hx
      rcases List.mem_cons.1 hx with rfl | hx
      · exact .inl ⟨p, rfl⟩
      · exact rowsOnly_spec h x hx
    · rename_i id n
      intro x hx
      rcases List.mem_cons.1 hx with rfl | hx
      · exact .inr ⟨id, n, rfl⟩
      · exact rowsOnly_spec h x hx

theorem callf_sound (hcal : CallOk Γ N P cal) {o : Oper} {f : Arg} {args : List Arg} {v : AV} {H' : Heap} (hc : chkX P N o (.callf f args) = true) (he : Env.Rel Γ N w S μ H σ a) (hr : Rel N.fn w S μ H)
    (hv : evX Γ cal σ H (.callf f args) = some (v, H')) : CDone N P w S μ H o a v H' := by
  simp only [chkX] at hc
  split at hc
  rotate_left
  · cases hc
  rename_i f' xs' Ts hy
  simp only [Bool.and_eq_true] at hc
  have hf := he.arg hc.1
  have ha := he.args hc.2
  simp only [evX, ifB] at hv
  split at hv
  rotate_left
  · cases hv
  rename_i hB
  simp only [Bool.and_eq_true] at hB
  simp only [callP, Option.map_eq_some_iff, Option.bind_eq_some_iff, Prod.mk.injEq] at hv
  obtain ⟨rs, ⟨fc, hfc, ps, hps, r, hcr, hrs⟩, rfl, rfl⟩ := hv
  obtain ⟨caps, hcl, hcaps⟩ := callee_rel hf hfc
  have hall := ha.append hcaps
  obtain ⟨S', hs, hrow⟩ := step_freeze ((args.map (Arg.ev Γ σ)).flatMap AV.cells) hr
  have own : ∀ {id n u p d}, AV.own id n ∈ (args.map (Arg.ev Γ σ)).flatMap AV.cells → RelV N.fn w S μ H (.own id n) u → reify H (d + 1) (.own id n) = some p → RelP N.fn w S' p u := by
    intro id n u p d hm hvu hp
    simp only [reify, Option.map_eq_some_iff] at hp
    obtain ⟨rr, hrr, rfl⟩ := hp
    obtain ⟨fz, hb, hn⟩ := rowOf_spec hrr
    rw [hvu.own_inv hrr]
    obtain ⟨f1, hb1, hf1⟩ := hrow id fz rr.1 rr.2 hb
    have := hf1 (.inl ⟨n, hm⟩)
    subst this
    refine row_relP hr hb hs.ext.more fun g hg => ?_
    obtain ⟨_, _, us, _, _, _, h4⟩ := hs.rel.blk id _ hb1
    exact h4 rfl g hg
  have cell : ∀ {c u p d}, c ∈ (args.map (Arg.ev Γ σ)).flatMap AV.cells → RelV N.fn w S μ H c u → reify H (d + 1) c = some p → RelP N.fn w S' p u := by
    intro c u p d hm hvu hp
    rcases rowsOnly_spec hB.1 c hm with ⟨q, rfl⟩ | ⟨id, n, rfl⟩
    · simp only [reify, Option.some.injEq] at hp; subst hp
      exact hvu.p_inv.more hs.ext.more
    · exact own hm hvu hp
  have hall' : All2 (fun u p => RelP N.fn w S' p u) (xs'.map a.eval ++ caps.toList) ps := reify_all hall hps fun v hv u p hvu hp => by
    rcases List.mem_append.1 hv with h | h
    · have sub : ∀ c ∈ v.cells, c ∈ (args.map (Arg.ev Γ σ)).flatMap AV.cells := fun c hc => List.mem_flatMap.2 ⟨v, h, hc⟩
      cases v with
      | p q => simp only [reify, Option.some.injEq] at hp; subst hp; exact hvu.p_inv.more hs.ext.more
      | own id n => exact own (sub _ (by simp [AV.cells])) hvu hp
      | agg cs =>
        rw [show reify H 4 (.agg cs) = (mapO (reify H 3) cs).map .agg from rfl, Option.map_eq_some_iff] at hp
        obtain ⟨qs, hqs, rfl⟩ := hp
        obtain ⟨h1, h2⟩ := mapO_spec hqs
        cases hvu with
        | agg _ us h3 h4 h5 =>
          refine .agg qs us (by rw [h3, h1]) (fun c hc => ?_) (fun j c hc => ?_)
          · obtain ⟨j, hj⟩ := List.getElem?_of_mem hc
            obtain ⟨x, hx, hx'⟩ := h2 j c hj
            exact reify_one hx' (h4 x (List.mem_of_getElem? hx))
          · obtain ⟨x, hx, hx'⟩ := h2 j c hc
            exact cell (sub x (List.mem_of_getElem? hx)) (h5 j x hx) hx'
      | bx id off => rcases rowsOnly_spec hB.1 _ (sub (.bx id off) (by simp [AV.cells])) with ⟨_, h⟩ | ⟨_, _, h⟩ <;> cases h
      | el id n i off => rcases rowsOnly_spec hB.1 _ (sub (.el id n i off) (by simp [AV.cells])) with ⟨_, h⟩ | ⟨_, _, h⟩ <;> cases h
      | clo f cs => rcases rowsOnly_spec hB.1 _ (sub (.clo f cs) (by simp [AV.cells])) with ⟨_, h⟩ | ⟨_, _, h⟩ <;> cases h
      | tup cs => simp [reify] at hp
      | nov => simp [reify] at hp
      | any => simp [reify] at hp
    · obtain ⟨q, rfl⟩ := callee_p hB.2 hfc v h
      simp only [reify, Option.some.injEq] at hp; subst hp
      exact hvu.p_inv.more hs.ext.more
  have h2 := pure_call hcal hs.rel.lt (he.glrel.more hs.ext.more) hall' hcr hrs
  refine ⟨_, _, exec_call hy hcl, h2.mono ?_⟩
  rintro e w' ⟨vs, rfl, hg, hvs⟩
  refine ⟨_, μ, hs.trans (.grow hs.rel hg (fun g h => .inl h) (fun g h => ?_) (fun g h => ?_)), results_rel (All2.map_right (hvs.imp fun u p h => .p _ _ h))⟩
  · rcases h with h | h
    · exact Nat.lt_of_lt_of_le (hs.rel.lt g h) hg.size
    · exact h.2
  · rcases h with h | h
    · exact .inl h
    · exact .inr h.1
end
end Ab
/- Statements in a row; regions that draw their order. -/
namespace Ab
open Go (IntKind BinOp UnOp World Value Addr Obj undef maxLen Program TypeId Oper Op Operand Act Sem Next Result execOp Builtin Calls Ending Exit)

def Arg.tmps : Arg → List Nat
  | .v t => [t]
  | _ => []

def QOp.args : QOp → List Arg
  | .bad => []
  | .mov x | .nilchk x | .un _ x | .conv _ x | .same x | .strOf x | .runeStr x | .len _ x | .fld _ _ _ x | .faddr _ x | .load _ _ x | .ext x _ => [x]
  | .pick c a b => [c, a, b]
  | .bin _ x y | .eqs _ _ x y | .eqk _ _ x y | .idx x y | .aidx _ _ _ x y | .iaddr _ x y | .iaddrA _ _ x y => [x, y]
  | .sliceS x lo hi | .slice _ x lo hi => x :: (lo.toList ++ hi.toList)
  | .build _ ps | .bslice _ _ _ _ ps => ps.map (·.arg)
  | .minmax _ xs | .clos _ xs => xs
  | .call f xs => f :: xs
def XOp.args : XOp → List Arg
  | .alloc _ | .newrow _ => []
  | .box x | .bytesOf x | .range x | .next x => [x]
  | .store _ x v | .append _ x v | .appendS x v | .copy _ x v => [x, v]
  | .mkslice _ _ _ n c => [n, c]
  | .slicef _ x lo hi => x :: (lo.toList ++ hi.toList)
  | .callf f xs | .calls f xs => f :: xs
def opArgs : QOp ⊕ XOp → List Arg
  | .inl q => q.args
  | .inr x => x.args
def St.reads (s : St) : List Nat := (match s.g with | some (t, _) => [t] | none => []) ++ (opArgs s.op).flatMap Arg.tmps

/-- One statement: what it yields, what memory is then. -/
def evOne (Γ : Ctx) (cal : Nat → List AV → Heap → Option (List AV × Heap)) (s : St) (σ : Nat → AV) (H : Heap) : Option (AV × Heap) :=
  match wanted σ s.g with
  | none => none
  | some false => some (.nov, H)
  | some true => match s.op with
    | .inl q => (evQ Γ cal σ H q).map fun v => (v, H)
    | .inr x => evX Γ cal σ H x

section
variable {Γ : Ctx} {cal : Nat → List AV → Heap → Option (List AV × Heap)}

theorem evSts_cons {s : St} {r : List St} {env : Env} {H : Heap} :
    evSts Γ cal (s :: r) env H = (evOne Γ cal s (look env) H).bind fun x => evSts Γ cal r (put env s.dst x.1) x.2 := by
  simp only [evSts, evOne]
  cases wanted (look env) s.g with
  | none => rfl
  | some b =>
    cases b with
    | false => rfl
    | true =>
      cases s.op with
      | inl q => simp only []; cases evQ Γ cal (look env) H q <;> rfl
      | inr x => simp only []; cases evX Γ cal (look env) H x <;> rfl

theorem Arg.ev_congr {σ σ' : Nat → AV} {x : Arg} (h : ∀ t ∈ x.tmps, σ t = σ' t) : x.ev Γ σ = x.ev Γ σ' := by
  cases x <;> try rfl
  exact h _ (by simp [Arg.tmps])

theorem map_congr {α β : Type} {f g : α → β} {l : List α} (h : ∀ x ∈ l, f x = g x) : l.map f = l.map g := List.map_congr_left h

theorem evQ_congr {σ σ' : Nat → AV} {H : Heap} {q : QOp} (h : ∀ x ∈ q.args, x.ev Γ σ = x.ev Γ σ') : evQ Γ cal σ H q = evQ Γ cal σ' H q := by
  have om : ∀ o : Option Arg, (∀ x ∈ o.toList, x.ev Γ σ = x.ev Γ σ') → o.map (Arg.ev Γ σ) = o.map (Arg.ev Γ σ') := fun o ho => by
    cases o with
    | none => rfl
    | some x => simp only [Option.map_some, ho x (by simp)]
  cases q <;> simp only [QOp.args, List.mem_cons, List.not_mem_nil, or_false, forall_eq, forall_eq_or_imp, List.mem_append, List.mem_map, forall_exists_index, and_imp, forall_apply_eq_imp_iff₂] at h <;> simp only [evQ]
  case sliceS x lo hi => rw [h.1, om lo fun x hx => h.2 x (.inl hx), om hi fun x hx => h.2 x (.inr hx)]
  case slice x lo hi => rw [h.1, om lo fun x hx => h.2 x (.inl hx), om hi fun x hx => h.2 x (.inr hx)]
  case build zero parts => rw [map_congr (f := fun q : Parts => (q.off, q.sz, Arg.ev Γ σ q.arg)) (g := fun q : Parts => (q.off, q.sz, Arg.ev Γ σ' q.arg)) fun x hx => by rw [h x hx]]
  case bslice sz ag n zero parts => rw [map_congr (f := fun q : Parts => (q.off, q.sz, Arg.ev Γ σ q.arg)) (g := fun q : Parts => (q.off, q.sz, Arg.ev Γ σ' q.arg)) fun x hx => by rw [h x hx]]
  case minmax mx xs => rw [map_congr h]
  case clos f xs => rw [map_congr h]
  case call f xs => rw [h.1, map_congr h.2]
  all_goals (first | rfl | rw [h] | rw [h.1, h.2] | rw [h.1, h.2.1, h.2.2])

theorem evX_congr {σ σ' : Nat → AV} {H : Heap} {q : XOp} (h : ∀ x ∈ q.args, x.ev Γ σ = x.ev Γ σ') : evX Γ cal σ H q = evX Γ cal σ' H q := by
  have om : ∀ o : Option Arg, (∀ x ∈ o.toList, x.ev Γ σ = x.ev Γ σ') → o.map (Arg.ev Γ σ) = o.map (Arg.ev Γ σ') := fun o ho => by
    cases o with
    | none => rfl
    | some x => simp only [Option.map_some, ho x (by simp)]
  cases q <;> simp only [XOp.args, List.mem_cons, List.not_mem_nil, or_false, forall_eq, forall_eq_or_imp, List.mem_append] at h <;> simp only [evX]
  case slicef sz x lo hi => rw [h.1, om lo fun x hx => h.2 x (.inl hx), om hi fun x hx => h.2 x (.inr hx)]
  case callf f xs => rw [h.1, map_congr h.2]
  case calls f xs => rw [h.1, map_congr h.2]
  all_goals (first | rw [h] | rw [h.1, h.2])

theorem evOne_congr {σ σ' : Nat → AV} {H : Heap} {s : St} (h : ∀ t ∈ s.reads, σ t = σ' t) : evOne Γ cal s σ H = evOne Γ cal s σ' H := by
  have hg : wanted σ s.g = wanted σ' s.g := by
    cases hs : s.g with
    | none => rfl
    | some g => obtain ⟨t, b⟩ := g; simp only [wanted]; rw [h t (by simp [St.reads, hs])]
  have ha : ∀ x ∈ opArgs s.op, x.ev Γ σ = x.ev Γ σ' := fun x hx => Arg.ev_congr fun t ht => h t (by
    simp only [St.reads, List.mem_append, List.mem_flatMap]; exact .inr ⟨x, hx, ht⟩)
  unfold evOne
  rw [hg]
  cases hs : s.op with
  | inl q => rw [hs] at ha; simp only [evQ_congr ha]
  | inr x => rw [hs] at ha; simp only [evX_congr ha]
end

/-! ### One statement of the model -/
def guardOk (ops : Array Oper) : Option (Nat × Bool) → Option (Nat × Bool) → Bool
  | none, none => true
  | some (j, b), some (t, b') => (match ops[j]? with | some oj => oj.dst == some t | none => false) && b == b'
  | _, _ => false
def chkSt (P : Program) (N : Names) (ops : Array Oper) (nt : Nat) (o : Oper) (s : St) : Bool :=
  o.dst == s.dst && (match s.dst with | some d => decide (d < nt) | none => true) && guardOk ops o.guard s.g && chkOp P N o s.op

section
variable {Γ : Ctx} {N : Names} {P : Program} {w : World} {S : Nat → Prop} {μ : Nat → Value} {H H' : Heap} {σ : Nat → AV} {a : Act}
  {cal : Nat → List AV → Heap → Option (List AV × Heap)} {ops : Array Oper}

theorem get_of_getD {xs : Array Value} {t : Nat} {v : Value} (h : xs.getD t undef = v) (hv : v ≠ undef) : xs[t]? = some v := by
  cases hx : xs[t]? with
  | none => simp [Array.getD_eq_getD_getElem?, hx] at h; exact absurd h.symm hv
  | some x => simp [Array.getD_eq_getD_getElem?, hx] at h; rw [h]
theorem RelV.nov_inv {u : Value} (h : RelV N.fn w S μ H .nov u) : u = undef := by cases h; rfl
theorem wanted_spec (he : Env.Rel Γ N w S μ H σ a) {o : Oper} {g : Option (Nat × Bool)} {b : Bool} (hg : guardOk ops o.guard g = true) (hw : wanted σ g = some b) : Go.Region.wanted o (Go.yielded ops a.tmps) = b := by
  unfold guardOk at hg
  split at hg
  · rename_i h1
    simp only [wanted, Option.some.injEq] at hw; subst hw
    simp [Go.Region.wanted, h1]
  · rename_i j c t c' h1
    simp only [Bool.and_eq_true, beq_iff_eq] at hg
    obtain ⟨h2, rfl⟩ := hg
    split at h2
    · rename_i oj hj
      simp only [beq_iff_eq] at h2
      have hv := he.env t
      simp only [wanted] at hw
      split at hw
      · rename_i c' hc'
        rw [hc'] at hv
        have hv := hv.bool_inv
        simp only [Option.some.injEq] at hw; subst hw
        have hv := get_of_getD hv (by simp [undef])
        simp only [Go.Region.wanted, h1, Go.yielded, hj, h2, hv, Option.bind_some]
        rfl
      · rename_i hc'
        rw [hc'] at hv
        simp only [Option.some.injEq] at hw; subst hw
        have hv := hv.nov_inv
        simp only [Go.Region.wanted, h1, Go.yielded, hj, h2, Option.bind_some]
        cases hx : a.tmps[t]? with
        | none => rfl
        | some x =>
          simp only [Array.getD_eq_getD_getElem?, hx, Option.getD_some] at hv
          subst hv; rfl
      · cases hw
    · cases h2
  · cases hg

theorem one_sound (hcal : CallOk Γ N P cal) {nt : Nat} {i : Nat} {o : Oper} {s : St} {v : AV} (hi : ops[i]? = some o) (hc : chkSt P N ops nt o s = true) (he : Env.Rel Γ N w S μ H σ a) (hr : Rel N.fn w S μ H)
    (hv : evOne Γ cal s σ H = some (v, H')) {K : Act → World → Prop} {Q : Exit → Act → World → Prop}
    (hK : ∀ u w' S' μ', Step N.fn w S μ H w' S' μ' H' → RelV N.fn w' S' μ' H' v u → K (a.put s.dst u) w') : Go.wpOp P ops Q i K a w := by
  simp only [chkSt, Bool.and_eq_true, beq_iff_eq] at hc
  obtain ⟨⟨⟨hd, _⟩, hg⟩, hop⟩ := hc
  unfold Go.wpOp
  simp only [hi]
  rw [← hd] at hK
  simp only [evOne] at hv
  split at hv
  · cases hv
  · rename_i hw
    simp only [Option.some.injEq, Prod.mk.injEq] at hv
    obtain ⟨rfl, rfl⟩ := hv
    simp only [wanted_spec he hg hw, Bool.false_eq_true, if_false]
    exact hK undef w S μ (.refl hr) .nov
  · rename_i hw
    simp only [wanted_spec he hg hw, if_true]
    refine .inl ?_
    have fin : CDone N P w S μ H o a v H' → o.wp P a w K Q := by
      rintro ⟨f, us, h1, ⟨h2, h3⟩ | ⟨u, w', h2, S', μ', h3, h4⟩⟩
      · simp only [Go.Oper.wp, h1, h2, Go.Oper.upon]
        refine h3.mono ?_
        rintro e w' ⟨u, rfl, S', μ', h3, h4⟩
        exact hK u w' S' μ' h3 h4
      · simp only [Go.Oper.wp, h1, h2, Go.Oper.upon]
        exact hK u w' S' μ' h3 h4
    split at hv
    · rename_i q hq
      rw [hq] at hop
      simp only [Option.map_eq_some_iff, Prod.mk.injEq] at hv
      obtain ⟨v', hv, rfl, rfl⟩ := hv
      by_cases hcl : ∃ f args, q = .call f args
      · obtain ⟨f, args, rfl⟩ := hcl
        exact fin (call_sound hcal hop he hr hv)
      · obtain ⟨u, w', S', h1, h2, h3⟩ := q_sound (fun f args h => hcl ⟨f, args, h⟩) hop he hr hv
        simp only [Go.Oper.wp, h1, Go.Oper.upon]
        exact hK u w' S' μ h2 h3
    · rename_i x hx
      rw [hx] at hop
      by_cases hk : x.known = true
      · obtain ⟨u, w', S', μ', h1, h2, h3⟩ := x_sound hk hop he hr hv
        rcases h1 with h1 | ⟨h1, rfl⟩
        · simp only [Go.Oper.wp, h1, Go.Oper.upon]; exact hK u w' S' μ' h2 h3
        · simp only [Go.Oper.wp, h1, Go.Oper.upon]; exact hK undef w' S' μ' h2 h3
      · cases x <;> simp only [XOp.known, not_true_eq_false] at hk
        · exact fin (callf_sound hcal hop he hr hv)
        · cases hop

theorem RelV.step {w' : World} {S' : Nat → Prop} {μ' : Nat → Value} (hr : Rel N.fn w S μ H) (hs : Step N.fn w S μ H w' S' μ' H') {v : AV} {u : Value} (h : RelV N.fn w S μ H v u) : RelV N.fn w' S' μ' H' v u :=
  h.keep hs.ext.more (fun g hg => hs.ext.keep g (hr.lt g hg) (hr.stable hg).2) hs.moves
theorem GlRel.step {w' : World} {S' : Nat → Prop} {μ' : Nat → Value} (hr : Rel N.fn w S μ H) (hs : Step N.fn w S μ H w' S' μ' H') (h : GlRel Γ N w S) : GlRel Γ N w' S' :=
  ⟨fun n cs hn => (h.rel n cs hn).keep hs.ext.more (fun g hg => hs.ext.keep g (hr.lt g hg) (hr.stable hg).2), fun n cs hn => by
    obtain ⟨us, e, fr, h1, h2⟩ := h.whole n cs hn
    have hS : S (N.gl n) := by
      have := h.rel n cs hn
      cases this with
      | ptr _ _ _ _ hs => exact hs
    exact ⟨us, e, fr, by rw [hs.ext.keep _ (hr.lt _ hS) (hr.stable hS).2]; exact h1, h2⟩⟩

theorem put_getD_ne {dst : Option Nat} {u : Value} {t : Nat} (h : dst ≠ some t) : (a.put dst u).tmps.getD t undef = a.tmps.getD t undef := by
  cases dst with
  | none => rfl
  | some d =>
    have : d ≠ t := fun e => h (by rw [e])
    simp [Go.Act.put, Array.getElem?_setIfInBounds_ne this]
theorem put_getD_eq {d : Nat} {u : Value} (h : d < a.tmps.size) : (a.put (some d) u).tmps.getD d undef = u := by
  simp [Go.Act.put, h]
theorem put_size {dst : Option Nat} {u : Value} : (a.put dst u).tmps.size = a.tmps.size := by cases dst <;> simp [Go.Act.put]
theorem put_defers {dst : Option Nat} {u : Value} : (a.put dst u).defers = a.defers := by cases dst <;> rfl
theorem look_put {env : Env} {dst : Option Nat} {v : AV} {t : Nat} : look (put env dst v) t = if dst = some t then v else look env t := by
  cases dst with
  | none => simp [put]
  | some d => by_cases h : d = t <;> simp [put, look, h]

theorem Env.Rel.put {env : Env} {w' : World} {S' : Nat → Prop} {μ' : Nat → Value} {v : AV} {u : Value} {dst : Option Nat} (hr : Ab.Rel N.fn w S μ H) (he : Env.Rel Γ N w S μ H (look env) a) (hs : Step N.fn w S μ H w' S' μ' H')
    (hv : RelV N.fn w' S' μ' H' v u) (hd : ∀ d, dst = some d → d < a.tmps.size) : Env.Rel Γ N w' S' μ' H' (look (Ab.put env dst v)) (a.put dst u) where
  env t := by
    rw [look_put]
    split
    · rename_i h; subst h; rw [put_getD_eq (hd t rfl)]; exact hv
    · rename_i h; rw [put_getD_ne h]; exact (he.env t).step hr hs
  gl := GlRel.step hr hs he.gl

/-- Statements one behind the other. -/
theorem sts_sound (hcal : CallOk Γ N P cal) {nt : Nat} {Q : Exit → Act → World → Prop} : ∀ (sts : List St) (k : Nat) {env env' : Env} {w : World} {S : Nat → Prop} {μ : Nat → Value} {H H' : Heap} {a : Act},
    (∀ j s, sts[j]? = some s → ∃ o, ops[k + j]? = some o ∧ chkSt P N ops nt o s = true) → evSts Γ cal sts env H = some (env', H') → Rel N.fn w S μ H → Env.Rel Γ N w S μ H (look env) a → nt ≤ a.tmps.size →
    (∀ a' w' S' μ', Step N.fn w S μ H w' S' μ' H' → Env.Rel Γ N w' S' μ' H' (look env') a' → a'.tmps.size = a.tmps.size → a'.defers = a.defers → Q .normal a' w') →
    Go.wpOps P ops Q (List.range' k sts.length) a w
  | [], k, env, env', w, S, μ, H, H', a, _, hv, hr, he, hn, hQ => by
    simp only [evSts, Option.some.injEq, Prod.mk.injEq] at hv
    obtain ⟨rfl, rfl⟩ := hv
    exact hQ a w S μ (.refl hr) he rfl rfl
  | s :: sts, k, env, env', w, S, μ, H, H', a, hc, hv, hr, he, hn, hQ => by
    rw [evSts_cons, Option.bind_eq_some_iff] at hv
    obtain ⟨⟨v, H1⟩, h1, h2⟩ := hv
    obtain ⟨o, ho, hso⟩ := hc 0 s rfl
    simp only [List.length_cons, List.range'_succ, Go.wpOps_cons]
    refine one_sound hcal ho hso he hr h1 fun u w1 S1 μ1 hs hu => ?_
    have hd : ∀ d, s.dst = some d → d < a.tmps.size := fun d hd => by
      simp only [chkSt, hd, Bool.and_eq_true, decide_eq_true_eq] at hso
      omega
    refine sts_sound hcal sts (k + 1) (fun j s' hj => ?_) h2 hs.rel (he.put hr hs hu hd) (by rw [put_size]; exact hn) fun a' w' S' μ' hs' he' hsz hdf => ?_
    · obtain ⟨o', h3, h4⟩ := hc (j + 1) s' (by simpa using hj)
      exact ⟨o', by rw [← h3]; congr 1; omega, h4⟩
    · exact hQ a' w' S' μ' (hs.trans hs') he' (by rw [hsz, put_size]) (by rw [hdf, put_defers])
end
end Ab
/- Regions that draw their order. -/
namespace Ab
open Go (IntKind BinOp UnOp World Value Addr Obj undef maxLen Program TypeId Oper Op Operand Act Sem Next Result execOp Builtin Calls Ending Exit)

/-- An operation waits for another, in one step or in several. -/
inductive Waits (ops : Array Oper) : Nat → Nat → Prop
  | one (j : Nat) (o : Oper) (e : Go.Edge) : ops[j]? = some o → e ∈ o.after → Go.Region.binds .any e = true → Waits ops j e.on
  | more (j : Nat) (o : Oper) (e : Go.Edge) (i : Nat) : ops[j]? = some o → e ∈ o.after → Go.Region.binds .any e = true → Waits ops e.on i → Waits ops j i

def orMask (acc : List Nat) : List Go.Edge → Nat → Nat
  | [], m => m
  | e :: es, m => orMask acc es (match Go.Region.binds .any e with | true => m ||| 2 ^ e.on ||| acc.getD e.on 0 | false => m)
def masks : List Oper → List Nat → List Nat
  | [], acc => acc
  | o :: os, acc => masks os (acc ++ [orMask acc o.after.toList 0])

theorem orMask_spec {ops : Array Oper} {j : Nat} {o : Oper} {acc : List Nat} (ho : ops[j]? = some o) (hacc : ∀ (k m i : Nat), acc[k]? = some m → m.testBit i = true → Waits ops k i) :
    ∀ (es : List Go.Edge) (m : Nat), (∀ e ∈ es, e ∈ o.after) → (∀ i, m.testBit i = true → Waits ops j i) → ∀ i, (orMask acc es m).testBit i = true → Waits ops j i
  | [], m, _, hm, i, h => hm i h
  | e :: es, m, he, hm, i, h => by
    refine orMask_spec ho hacc es _ (fun e' h' => he e' (by simp [h'])) (fun i hi => ?_) i h
    cases hb : Go.Region.binds .any e with
    | false => rw [hb] at hi; exact hm i hi
    | true =>
      rw [hb] at hi
      simp only [Nat.testBit_or, Bool.or_eq_true] at hi
      rcases hi with (hi | hi) | hi
      · exact hm i hi
      · rw [Nat.testBit_two_pow] at hi
        have : e.on = i := by simpa using hi
        subst this
        exact .one j o e ho (he e (by simp)) hb
      · cases hg : acc[e.on]? with
        | none => simp [List.getD_eq_getElem?_getD, hg] at hi
        | some x =>
          simp only [List.getD_eq_getElem?_getD, hg, Option.getD_some] at hi
          exact .more j o e i ho (he e (by simp)) hb (hacc _ _ _ hg hi)

theorem masks_spec {ops : Array Oper} : ∀ (os : List Oper) (acc : List Nat), (∀ j, os[j]? = ops[acc.length + j]?) → (∀ (k m i : Nat), acc[k]? = some m → m.testBit i = true → Waits ops k i) →
    ∀ (k m i : Nat), (masks os acc)[k]? = some m → m.testBit i = true → Waits ops k i
  | [], acc, _, hacc => hacc
  | o :: os, acc, hos, hacc => by
    have ho : ops[acc.length]? = some o := by simpa using (hos 0).symm
    refine masks_spec os _ (fun j => ?_) (fun k m i hk hi => ?_)
    · have := hos (j + 1)
      simp only [List.getElem?_cons_succ] at this
      rw [this]; congr 1; simp; omega
    · by_cases hlt : k < acc.length
      · rw [List.getElem?_append_left hlt] at hk; exact hacc k m i hk hi
      · rw [List.getElem?_append_right (by omega)] at hk
        have hk0 : k - acc.length = 0 := by
          cases h : k - acc.length with
          | zero => rfl
          | succ n => rw [h] at hk; simp at hk
        rw [hk0] at hk
        simp only [List.getElem?_cons_zero, Option.some.injEq] at hk
        have : k = acc.length := by omega
        subst this
        subst hk
        exact orMask_spec ho hacc o.after.toList 0 (fun e he => by simpa using he) (by simp) i hi

def isX : QOp ⊕ XOp → Bool
  | .inl _ => false
  | .inr _ => true
/-- Operations that look at no memory of the call's own. -/
def isFree : QOp ⊕ XOp → Bool
  | .inl (.mov _) | .inl (.pick _ _ _) | .inl (.bin _ _ _) | .inl (.eqs _ _ _ _) | .inl (.eqk _ _ _ _) | .inl (.un _ _) | .inl (.conv _ _) | .inl (.same _) | .inl (.idx _ _) | .inl (.aidx _ _ _ _ _)
  | .inl (.fld _ _ _ _) | .inl (.sliceS _ _ _) | .inl (.slice _ _ _ _) | .inl (.build _ _) | .inl (.bslice _ _ _ _ _) | .inl (.ext _ _) | .inl (.minmax _ _) | .inl (.clos _ _) => true
  | _ => false

/-- Operations that make a block and do no more. -/
def isAlloc : QOp ⊕ XOp → Bool
  | .inr (.alloc _) | .inr (.newrow _) => true
  | _ => false

/-- Names that a statement reads or writes. -/
def St.names (s : St) : List Nat := s.dst.toList ++ s.reads

/-- Whoever writes a name that statement i knows comes up always ahead of it, or always behind it. -/
def namesOk (M : List Nat) (dsts : List (Option Nat)) (i : Nat) (s : St) : Bool :=
  s.names.all fun t => (List.range dsts.length).all fun k => match dsts[k]? with
    | some (some d) => if d = t then (if k < i then (M.getD i 0).testBit k else if i < k then (M.getD k 0).testBit i else true) else true
    | _ => true
/-- From the first change of memory on, every statement that looks at memory waits for all such ahead of it; one that makes a block waits for changes alone. -/
def tailOk (M : List Nat) (F X : List Bool) : Nat → Bool → List St → Bool
  | _, _, [] => true
  | i, x, s :: r => match x || isX s.op with
    | true => (isFree s.op || (List.range i).all (fun k => F.getD k false || (isAlloc s.op && !X.getD k true) || (M.getD i 0).testBit k)) && tailOk M F X (i + 1) true r
    | false => tailOk M F X (i + 1) false r
def backOk : Nat → List Oper → Bool
  | _, [] => true
  | i, o :: r => o.after.toList.all (fun e => match Go.Region.binds .any e with | true => decide (e.on < i) | false => true) && backOk (i + 1) r
def allNames (M : List Nat) (dsts : List (Option Nat)) : Nat → List St → Bool
  | _, [] => true
  | i, s :: r => namesOk M dsts i s && allNames M dsts (i + 1) r
def drawOk (ops : List Oper) (sts : List St) : Bool :=
  let M := masks ops []
  backOk 0 ops && tailOk M (sts.map fun s => isFree s.op) (sts.map fun s => isX s.op) 0 false sts && allNames M (sts.map (·.dst)) 0 sts

theorem getD_bit {M : List Nat} {i k : Nat} (h : (M.getD i 0).testBit k = true) : ∃ m, M[i]? = some m ∧ m.testBit k = true := by
  cases hm : M[i]? with
  | none => simp [List.getD_eq_getElem?_getD, hm] at h
  | some m => simp only [List.getD_eq_getElem?_getD, hm, Option.getD_some] at h; exact ⟨m, rfl, h⟩

theorem backOk_spec : ∀ (l : List Oper) (i : Nat), backOk i l = true → ∀ (j : Nat) o, l[j]? = some o → ∀ e ∈ o.after, Go.Region.binds .any e = true → e.on < i + j
  | o :: l, i, h, j, o', hj, e, he, hb => by
    simp only [backOk, Bool.and_eq_true] at h
    cases j with
    | zero =>
      simp only [List.getElem?_cons_zero, Option.some.injEq] at hj; subst hj
      have := List.all_eq_true.1 h.1 e (by simpa using he)
      rw [hb] at this
      simpa using this
    | succ j => have := backOk_spec l (i + 1) h.2 j o' (by simpa using hj) e he hb; omega
  | [], _, _, _, _, hj, _, _, _ => by simp at hj

theorem tailOk_spec {M : List Nat} {F X : List Bool} : ∀ (l : List St) (i : Nat) (x : Bool), tailOk M F X i x l = true → ∀ (j : Nat) (s : St), l[j]? = some s → isFree s.op = false → (x = true ∨ ∃ k s, k ≤ j ∧ l[k]? = some s ∧ isX s.op = true) →
    ∀ k < i + j, (F.getD k false = true ∨ (isAlloc s.op = true ∧ X.getD k true = false)) ∨ (M.getD (i + j) 0).testBit k = true
  | s :: l, i, x, h, j, s0, hj, hf, hx, k, hk => by
    simp only [tailOk] at h
    split at h
    · rename_i hb
      simp only [Bool.and_eq_true, Bool.or_eq_true] at h
      cases j with
      | zero =>
        simp only [List.getElem?_cons_zero, Option.some.injEq] at hj; subst hj
        rcases h.1 with h1 | h1
        · rw [hf] at h1; cases h1
        · have := List.all_eq_true.1 h1 k (by simpa using hk)
          simpa [Bool.or_eq_true, Bool.and_eq_true] using this
      | succ j =>
        have := tailOk_spec l (i + 1) true h.2 j s0 (by simpa using hj) hf (.inl rfl) k (by omega)
        rwa [show i + 1 + j = i + (j + 1) by omega] at this
    · rename_i hb
      simp only [Bool.or_eq_false_iff] at hb
      cases j with
      | zero =>
        rcases hx with hx | ⟨k', s', hk', hs', hx⟩
        · rw [hb.1] at hx; cases hx
        · have : k' = 0 := by omega
          subst this
          simp only [List.getElem?_cons_zero, Option.some.injEq] at hs'; subst hs'
          rw [hb.2] at hx; cases hx
      | succ j =>
        have := tailOk_spec l (i + 1) false h j s0 (by simpa using hj) hf (by
          rcases hx with hx | ⟨k', s', hk', hs', hx⟩
          · rw [hb.1] at hx; cases hx
          · cases k' with
            | zero => simp only [List.getElem?_cons_zero, Option.some.injEq] at hs'; subst hs'; rw [hb.2] at hx; cases hx
            | succ k' => exact .inr ⟨k', s', by omega, by simpa using hs', hx⟩) k (by omega)
        rwa [show i + 1 + j = i + (j + 1) by omega] at this
  | [], _, _, _, j, _, hj, _, _, _, _ => by simp at hj

theorem allNames_spec {M : List Nat} {dsts : List (Option Nat)} : ∀ (l : List St) (i : Nat), allNames M dsts i l = true → ∀ (j : Nat) s, l[j]? = some s → namesOk M dsts (i + j) s = true
  | s :: l, i, h, j, s', hj => by
    simp only [allNames, Bool.and_eq_true] at h
    cases j with
    | zero => simp only [List.getElem?_cons_zero, Option.some.injEq] at hj; subst hj; exact h.1
    | succ j =>
      have := allNames_spec l (i + 1) h.2 j s' (by simpa using hj)
      rwa [show i + 1 + j = i + (j + 1) by omega] at this
  | [], _, _, _, _, hj => by simp at hj

/-- What the checks say. -/
structure Draw (ops : Array Oper) (sts : List St) : Prop where
  len : sts.length = ops.size
  back : ∀ (j : Nat) o, ops[j]? = some o → ∀ e ∈ o.after, Go.Region.binds .any e = true → e.on < j
  tail : ∀ (j : Nat) (s : St), sts[j]? = some s → isFree s.op = false → (∃ (k : Nat) (s : St), k ≤ j ∧ sts[k]? = some s ∧ isX s.op = true) → ∀ (k : Nat) (s' : St), k < j → sts[k]? = some s' → isFree s'.op = false → (isAlloc s.op = true ∧ isX s'.op = false) ∨ Waits ops j k
  names : ∀ (i : Nat) s, sts[i]? = some s → ∀ t ∈ s.names, ∀ (k : Nat) s', sts[k]? = some s' → s'.dst = some t → (k < i → Waits ops i k) ∧ (i < k → Waits ops k i)

theorem drawOk_spec {ops : Array Oper} {sts : List St} (hl : sts.length = ops.size) (h : drawOk ops.toList sts = true) : Draw ops sts := by
  simp only [drawOk, Bool.and_eq_true] at h
  obtain ⟨⟨h1, h2⟩, h3⟩ := h
  have hm : ∀ i k, ((masks ops.toList []).getD i 0).testBit k = true → Waits ops i k := fun i k hb => by
    obtain ⟨m, hm, hk⟩ := getD_bit hb
    exact masks_spec ops.toList [] (by simp) (by simp) i m k hm hk
  refine ⟨hl, fun j o ho e he hb => ?_, fun j s hs hf hx k s' hk hs' hf' => ?_, fun i s hs t ht k s' hs' hd => ?_⟩
  · have := backOk_spec ops.toList 0 h1 j o (by simpa using ho) e he hb; omega
  · have := tailOk_spec sts 0 false h2 j s hs hf (.inr hx) k (by omega)
    rw [Nat.zero_add] at this
    rcases this with (h | ⟨h, h'⟩) | h
    · simp [List.getD_eq_getElem?_getD, hs', hf'] at h
    · exact .inl ⟨h, by simpa [List.getD_eq_getElem?_getD, hs'] using h'⟩
    · exact .inr (hm _ _ h)
  · have := allNames_spec sts 0 h3 i s hs
    rw [Nat.zero_add] at this
    have := List.all_eq_true.1 this t ht
    have := List.all_eq_true.1 this k (by simpa using (List.getElem?_eq_some_iff.1 hs').1)
    simp only [List.getElem?_map, hs', Option.map_some, hd, if_true] at this
    refine ⟨fun hki => hm _ _ ?_, fun hik => hm _ _ ?_⟩
    · rw [if_pos hki] at this; exact this
    · rw [if_neg (by omega), if_pos hik] at this; exact this
end Ab
/- Regions that draw their order: every order ends as the order of the text does. -/
namespace Ab
open Go (IntKind BinOp UnOp World Value Addr Obj undef maxLen Program TypeId Oper Op Operand Act Sem Next Result execOp Builtin Calls Ending Exit)

section
variable {Γ : Ctx} {cal : Nat → List AV → Heap → Option (List AV × Heap)}

/-- The course of the statements in the order of the text. -/
structure Course (Γ : Ctx) (cal : Nat → List AV → Heap → Option (List AV × Heap)) (sts : List St) (E : Nat → Env) (hp : Nat → Heap) (val : Nat → AV) : Prop where
  one : ∀ (i : Nat) s, sts[i]? = some s → evOne Γ cal s (look (E i)) (hp i) = some (val i, hp (i + 1))
  env : ∀ (i : Nat) s, sts[i]? = some s → E (i + 1) = put (E i) s.dst (val i)

theorem course_of : ∀ (sts : List St) {env env' : Env} {H H' : Heap}, evSts Γ cal sts env H = some (env', H') → ∃ E hp val, Course Γ cal sts E hp val ∧ E 0 = env ∧ hp 0 = H ∧ E sts.length = env' ∧ hp sts.length = H'
  | [], env, env', H, H', h => by
    simp only [evSts, Option.some.injEq, Prod.mk.injEq] at h
    obtain ⟨rfl, rfl⟩ := h
    exact ⟨fun _ => env, fun _ => H, fun _ => .any, ⟨by simp, by simp⟩, rfl, rfl, rfl, rfl⟩
  | s :: sts, env, env', H, H', h => by
    rw [evSts_cons, Option.bind_eq_some_iff] at h
    obtain ⟨⟨v, H1⟩, h1, h2⟩ := h
    obtain ⟨E, hp, val, hc, e1, e2, e3, e4⟩ := course_of sts h2
    refine ⟨fun i => match i with | 0 => env | i + 1 => E i, fun i => match i with | 0 => H | i + 1 => hp i, fun i => match i with | 0 => v | i + 1 => val i, ⟨fun i s' hs => ?_, fun i s' hs => ?_⟩, rfl, rfl, e3, e4⟩
    · cases i with
      | zero => simp only [List.getElem?_cons_zero, Option.some.injEq] at hs; subst hs; rw [h1]; exact congrArg some (Prod.ext rfl e2.symm)
      | succ i => exact hc.one i s' (by simpa using hs)
    · cases i with
      | zero => simp only [List.getElem?_cons_zero, Option.some.injEq] at hs; subst hs; exact e1
      | succ i => exact hc.env i s' (by simpa using hs)

def dstOf (sts : List St) (k : Nat) : Option Nat := (sts[k]?).bind (·.dst)
/-- Behind which statement a name was written last. -/
def lastW (sts : List St) (L : Nat → Bool) (t : Nat) : Nat → Nat
  | 0 => 0
  | k + 1 => if L k = true ∧ dstOf sts k = some t then k + 1 else lastW sts L t k

theorem lastW_congr {sts : List St} {L L' : Nat → Bool} {t : Nat} : ∀ n, (∀ k < n, dstOf sts k = some t → L k = L' k) → lastW sts L t n = lastW sts L' t n
  | 0, _ => rfl
  | n + 1, h => by
    have ih := lastW_congr n fun k hk => h k (by omega)
    unfold lastW
    by_cases hd : dstOf sts n = some t
    · rw [h n (by omega) hd, ih]
    · simp only [hd, and_false, if_false]; exact ih
theorem lastW_at {sts : List St} {L : Nat → Bool} {t i : Nat} (hL : L i = true) (hd : dstOf sts i = some t) : ∀ n, i < n → (∀ k, i < k → k < n → dstOf sts k = some t → L k = false) → lastW sts L t n = i + 1
  | 0, h, _ => by omega
  | n + 1, h, hk => by
    unfold lastW
    by_cases he : i = n
    · subst he; simp [hL, hd]
    · have hno : ¬ (L n = true ∧ dstOf sts n = some t) := fun ⟨h1, h2⟩ => by rw [hk n (by omega) (by omega) h2] at h1; cases h1
      rw [if_neg hno]
      exact lastW_at hL hd n (by omega) fun k h1 h2 => hk k h1 (by omega)

theorem Course.agree {sts : List St} {E : Nat → Env} {hp : Nat → Heap} {val : Nat → AV} (hc : Course Γ cal sts E hp val) {L : Nat → Bool} {t i : Nat} (hL : ∀ k, dstOf sts k = some t → (L k = true ↔ k < i)) :
    ∀ j, j ≤ sts.length → look (E (lastW sts L t j)) t = look (E (min i j)) t
  | 0, _ => by simp [lastW]
  | j + 1, hj => by
    have ih := hc.agree hL j (by omega)
    have hs : sts[j]? = some sts[j] := List.getElem?_eq_getElem (by omega)
    have hE := hc.env j _ hs
    have hd : dstOf sts j = (sts[j]).dst := by simp [dstOf, hs]
    unfold lastW
    by_cases h : L j = true ∧ dstOf sts j = some t
    · rw [if_pos h]
      have : j < i := (hL j h.2).1 h.1
      rw [show min i (j + 1) = j + 1 by omega]
    · rw [if_neg h, ih]
      by_cases hi : i ≤ j
      · rw [show min i j = i by omega, show min i (j + 1) = i by omega]
      · rw [show min i j = j by omega, show min i (j + 1) = j + 1 by omega, hE, look_put]
        have : ¬ (sts[j]).dst = some t := fun e => by
          rw [← hd] at e
          exact h ⟨(hL j e).2 (by omega), e⟩
        rw [if_neg this]

theorem Course.quiet {sts : List St} {E : Nat → Env} {hp : Nat → Heap} {val : Nat → AV} (hc : Course Γ cal sts E hp val) {i : Nat} {s : St} (hs : sts[i]? = some s) (hx : isX s.op = false) : hp (i + 1) = hp i := by
  have h := hc.one i s hs
  simp only [evOne] at h
  split at h
  · cases h
  · simp only [Option.some.injEq, Prod.mk.injEq] at h; exact h.2.symm
  · split at h
    · simp only [Option.map_eq_some_iff, Prod.mk.injEq] at h
      obtain ⟨_, _, _, h⟩ := h; exact h.symm
    · rename_i x hx'; rw [hx'] at hx; cases hx
theorem Course.between {sts : List St} {E : Nat → Env} {hp : Nat → Heap} {val : Nat → AV} (hc : Course Γ cal sts E hp val) {k : Nat} : ∀ i, k ≤ i → i ≤ sts.length → (∀ (m : Nat) s, k ≤ m → m < i → sts[m]? = some s → isX s.op = false) → hp i = hp k
  | 0, h, _, _ => by rw [show k = 0 by omega]
  | i + 1, h, hi, hq => by
    by_cases hk : k = i + 1
    · rw [hk]
    · have hs : sts[i]? = some sts[i] := List.getElem?_eq_getElem (by omega)
      rw [hc.quiet hs (hq i _ (by omega) (by omega) hs)]
      exact hc.between i (by omega) (by omega) fun m s h1 h2 => hq m s h1 (by omega)

theorem evOne_free {s : St} {σ : Nat → AV} {H H2 H' : Heap} {v : AV} (hf : isFree s.op = true) (h : evOne Γ cal s σ H = some (v, H')) : evOne Γ cal s σ H2 = some (v, H2) := by
  unfold evOne at *
  split at h
  · cases h
  · simp only [Option.some.injEq, Prod.mk.injEq] at h
    simp [h.1]
  · cases hs : s.op with
    | inr x => rw [hs] at hf; cases x <;> cases hf
    | inl q =>
      rw [hs] at hf h
      simp only [Option.map_eq_some_iff, Prod.mk.injEq] at h
      obtain ⟨v', h, rfl, _⟩ := h
      have e : evQ Γ cal σ H2 q = evQ Γ cal σ H q := by cases q <;> first | rfl | cases hf
      simp only [e, h, Option.map_some]

/-! What is read stays as it is when blocks are added. -/
theorem rowOf_up {H E : Heap} {id n : Nat} {r : Nat × List PV} (h : rowOf H id n = some r) : rowOf (H ++ E) id n = some r := by
  unfold rowOf at *
  cases hb : H[id]? with
  | none => simp [hb] at h
  | some b => rw [List.getElem?_append_left (List.getElem?_eq_some_iff.1 hb).1, hb]; rw [hb] at h; exact h
theorem boxOf_up {H E : Heap} {id : Nat} {cs : List AV} (h : boxOf H id = some cs) : boxOf (H ++ E) id = some cs := by
  unfold boxOf at *
  cases hb : H[id]? with
  | none => simp [hb] at h
  | some b => rw [List.getElem?_append_left (List.getElem?_eq_some_iff.1 hb).1, hb]; rw [hb] at h; exact h
theorem mapO_up {α β : Type} {f g : α → Option β} (hfg : ∀ a b, f a = some b → g a = some b) : ∀ {l : List α} {r : List β}, mapO f l = some r → mapO g l = some r
  | [], _, h => h
  | a :: l, r, h => by
    simp only [mapO] at h ⊢
    cases ha : f a with
    | none => simp [ha] at h
    | some b =>
      rw [ha] at h
      cases hl : mapO f l with
      | none => simp [hl] at h
      | some bs => rw [hfg a b ha, mapO_up hfg hl]; rw [hl] at h; exact h
theorem reify_up {H E : Heap} : ∀ (d : Nat) (v : AV) (p : PV), reify H d v = some p → reify (H ++ E) d v = some p
  | 0, v, p, h => by cases v <;> first | exact h | cases h
  | d + 1, v, p, h => by
    have ih := reify_up (H := H) (E := E) d
    cases v with
    | p v => exact h
    | own id n =>
      rw [show reify H (d + 1) (.own id n) = (rowOf H id n).map fun r => .sl .any r.1 r.2 from rfl, Option.map_eq_some_iff] at h
      obtain ⟨r, h1, h2⟩ := h
      rw [show reify (H ++ E) (d + 1) (.own id n) = (rowOf (H ++ E) id n).map fun r => .sl .any r.1 r.2 from rfl, rowOf_up h1, Option.map_some, h2]
    | bx id off =>
      rw [show reify H (d + 1) (.bx id off) = (boxOf H id).bind fun cs => if off < cs.length then (mapO (reify H d) (cs.drop off)).map .ptr else none from rfl, Option.bind_eq_some_iff] at h
      obtain ⟨cs, h1, h2⟩ := h
      rw [show reify (H ++ E) (d + 1) (.bx id off) = (boxOf (H ++ E) id).bind fun cs => if off < cs.length then (mapO (reify (H ++ E) d) (cs.drop off)).map .ptr else none from rfl, boxOf_up h1, Option.bind_some]
      split at h2
      · rename_i hl
        rw [if_pos hl]
        obtain ⟨xs, h3, h4⟩ := Option.map_eq_some_iff.1 h2
        rw [mapO_up ih h3, Option.map_some, h4]
      · cases h2
    | el id n i off =>
      rw [show reify H (d + 1) (.el id n i off) = (rowOf H id n).bind fun r => r.2[i]?.bind fun x => if off < x.cells.length then some (.ptr (x.cells.drop off)) else none from rfl, Option.bind_eq_some_iff] at h
      obtain ⟨r, h1, h2⟩ := h
      rw [show reify (H ++ E) (d + 1) (.el id n i off) = (rowOf (H ++ E) id n).bind fun r => r.2[i]?.bind fun x => if off < x.cells.length then some (.ptr (x.cells.drop off)) else none from rfl, rowOf_up h1]
      exact h2
    | agg cs =>
      rw [show reify H (d + 1) (.agg cs) = (mapO (reify H d) cs).map .agg from rfl, Option.map_eq_some_iff] at h
      obtain ⟨xs, h1, h2⟩ := h
      rw [show reify (H ++ E) (d + 1) (.agg cs) = (mapO (reify (H ++ E) d) cs).map .agg from rfl, mapO_up ih h1, Option.map_some, h2]
    | clo f cs =>
      rw [show reify H (d + 1) (.clo f cs) = (mapO (reify H d) cs).map (.clo f) from rfl, Option.map_eq_some_iff] at h
      obtain ⟨xs, h1, h2⟩ := h
      rw [show reify (H ++ E) (d + 1) (.clo f cs) = (mapO (reify (H ++ E) d) cs).map (.clo f) from rfl, mapO_up ih h1, Option.map_some, h2]
    | tup cs => cases h
    | nov => cases h
    | any => cases h
theorem elOk_up {H E : Heap} {id n i : Nat} (h : elOk H id n i = true) : elOk (H ++ E) id n i = true := by
  unfold elOk at *
  cases hr : rowOf H id n with
  | none => simp [hr] at h
  | some r => rw [rowOf_up hr]; rw [hr] at h; exact h
theorem evQ_up {σ : Nat → AV} {H E : Heap} {q : QOp} {v : AV} (h : evQ Γ cal σ H q = some v) : evQ Γ cal σ (H ++ E) q = some v := by
  cases q
  case nilchk x =>
    simp only [evQ] at h ⊢
    generalize x.ev Γ σ = y at h ⊢
    unfold nilchkA at h ⊢
    split at h
    all_goals first
      | exact h
      | (simp only [ifB_some] at h ⊢; exact ⟨elOk_up h.1, h.2⟩)
      | cases h
  case strOf x =>
    simp only [evQ] at h ⊢
    generalize x.ev Γ σ = y at h ⊢
    unfold strOfA at h ⊢
    split at h
    · exact h
    · obtain ⟨r, h1, h2⟩ := Option.bind_eq_some_iff.1 h
      simp only [rowOf_up h1]
      exact h2
    · cases h
  case len s x =>
    simp only [evQ] at h ⊢
    generalize x.ev Γ σ = y at h ⊢
    obtain ⟨n, h1, h2⟩ := Option.map_eq_some_iff.1 h
    have : asLen (H ++ E) s y = some n := by
      unfold asLen at h1 ⊢
      split at h1
      · exact h1
      · exact h1
      · obtain ⟨r, h3, h4⟩ := Option.map_eq_some_iff.1 h1
        subst h4
        rw [rowOf_up h3]; rfl
      · cases h1
    rw [this, Option.map_some, h2]
  case faddr off x =>
    simp only [evQ] at h ⊢
    generalize x.ev Γ σ = y at h ⊢
    unfold faddrA at h ⊢
    split at h
    all_goals first
      | exact h
      | (simp only [ifB_some] at h ⊢; exact ⟨elOk_up h.1, h.2⟩)
      | cases h
  case iaddr sz x i =>
    simp only [evQ] at h ⊢
    generalize x.ev Γ σ = y at h ⊢
    generalize i.ev Γ σ = z at h ⊢
    unfold iaddrA at h ⊢
    split at h
    · exact h
    · obtain ⟨r, h1, h2⟩ := Option.bind_eq_some_iff.1 h
      simp only [rowOf_up h1]
      exact h2
    · cases h
  case load sz ag x =>
    simp only [evQ] at h ⊢
    generalize x.ev Γ σ = y at h ⊢
    unfold loadA at h ⊢
    split at h
    · exact h
    · obtain ⟨r, h1, h2⟩ := Option.bind_eq_some_iff.1 h
      simp only [boxOf_up h1]
      exact h2
    · obtain ⟨r, h1, h2⟩ := Option.bind_eq_some_iff.1 h
      simp only [rowOf_up h1]
      exact h2
    · cases h
  case call f args =>
    simp only [evQ, Option.bind_eq_some_iff] at h ⊢
    obtain ⟨rs, h1, h2⟩ := h
    refine ⟨rs, ?_, h2⟩
    unfold callP at *
    simp only [Option.bind_eq_some_iff] at *
    obtain ⟨fc, h3, ps, h4, r, h5, h6⟩ := h1
    exact ⟨fc, h3, ps, mapO_up (reify_up 4) h4, r, h5, h6⟩
  all_goals exact h
theorem evOne_up {s : St} {σ : Nat → AV} {H E H' : Heap} {v : AV} (hx : isX s.op = false) (h : evOne Γ cal s σ H = some (v, H')) : evOne Γ cal s σ (H ++ E) = some (v, H ++ E) := by
  unfold evOne at *
  split at h
  · cases h
  · simp only [Option.some.injEq, Prod.mk.injEq] at h
    simp [h.1]
  · cases hs : s.op with
    | inr x => rw [hs] at hx; cases hx
    | inl q =>
      rw [hs] at h
      simp only [Option.map_eq_some_iff, Prod.mk.injEq] at h
      obtain ⟨v', h, rfl, _⟩ := h
      simp only [evQ_up h, Option.map_some]
theorem Course.more {sts : List St} {E : Nat → Env} {hp : Nat → Heap} {val : Nat → AV} (hc : Course Γ cal sts E hp val) {i : Nat} {s : St} (hs : sts[i]? = some s) (hx : isX s.op = true → isAlloc s.op = true) : ∃ X, hp (i + 1) = hp i ++ X := by
  cases hq : isX s.op with
  | false => exact ⟨[], by rw [hc.quiet hs hq, List.append_nil]⟩
  | true =>
    have ha := hx hq
    have h := hc.one i s hs
    simp only [evOne] at h
    split at h
    · cases h
    · simp only [Option.some.injEq, Prod.mk.injEq] at h; exact ⟨[], by rw [← h.2, List.append_nil]⟩
    · cases hop : s.op with
      | inl q => rw [hop] at hq; cases hq
      | inr x =>
        rw [hop] at h ha
        cases x <;> try cases ha
        all_goals
          simp only [evX, Option.some.injEq, Prod.mk.injEq] at h
          exact ⟨_, h.2.symm⟩
theorem Course.grows {sts : List St} {E : Nat → Env} {hp : Nat → Heap} {val : Nat → AV} (hc : Course Γ cal sts E hp val) {k : Nat} : ∀ i, k ≤ i → i ≤ sts.length → (∀ (m : Nat) s, k ≤ m → m < i → sts[m]? = some s → isX s.op = true → isAlloc s.op = true) → ∃ X, hp i = hp k ++ X
  | 0, h, _, _ => ⟨[], by rw [show k = 0 by omega, List.append_nil]⟩
  | i + 1, h, hi, hq => by
    by_cases hk : k = i + 1
    · exact ⟨[], by rw [hk, List.append_nil]⟩
    · have hs : sts[i]? = some sts[i] := List.getElem?_eq_getElem (by omega)
      obtain ⟨X, hX⟩ := hc.grows (k := k) i (by omega) (by omega) fun m s h1 h2 => hq m s h1 (by omega)
      obtain ⟨Y, hY⟩ := hc.more hs (hq i _ (by omega) (by omega) hs)
      exact ⟨X ++ Y, by rw [hY, hX, List.append_assoc]⟩

theorem Course.quiets {sts : List St} {E : Nat → Env} {hp : Nat → Heap} {val : Nat → AV} (hc : Course Γ cal sts E hp val) : ∀ i, i ≤ sts.length → (∀ (k : Nat) s, k < i → sts[k]? = some s → isX s.op = false) → hp i = hp 0
  | 0, _, _ => rfl
  | i + 1, hi, h => by
    have hs : sts[i]? = some sts[i] := List.getElem?_eq_getElem (by omega)
    rw [hc.quiet hs (h i _ (by omega) hs)]
    exact hc.quiets i (by omega) fun k s hk => h k s (by omega)
end

section
variable {Γ : Ctx} {N : Names} {P : Program} {cal : Nat → List AV → Heap → Option (List AV × Heap)} {ops : Array Oper} {sts : List St}

theorem getD_both {listed : Array Bool} {i : Nat} (h : listed.getD i true = false) : listed.getD i false = false := by
  rcases Nat.lt_or_ge i listed.size with h' | h'
  · simp [h'] at h ⊢; exact h
  · simp [Array.getElem?_eq_none h'] at h
theorem getD_in {listed : Array Bool} {i : Nat} (hi : i < listed.size) (h : listed.getD i false = false) : listed.getD i true = false := by
  simp [hi] at h ⊢; exact h

theorem waits_listed {listed : Array Bool} (hcl : ∀ (j : Nat) o, ops[j]? = some o → listed.getD j false = true → ∀ e ∈ o.after, Go.Region.binds .any e = true → listed.getD e.on false = true) {j i : Nat} (h : Waits ops j i) :
    listed.getD j false = true → listed.getD i false = true := by
  induction h with
  | one j o e ho he hb => exact fun hj => hcl j o ho hj e he hb
  | more j o e i ho he hb _ ih => exact fun hj => ih (hcl j o ho hj e he hb)

theorem ready_waits {listed : Array Bool} (hcl : ∀ (j : Nat) o, ops[j]? = some o → listed.getD j false = true → ∀ e ∈ o.after, Go.Region.binds .any e = true → listed.getD e.on false = true) {j i : Nat}
    (hj : j ∈ Go.Region.ready .any ops listed) (h : Waits ops j i) : listed.getD i false = true := by
  obtain ⟨_, o, ho, hall⟩ := Go.mem_ready.1 hj
  cases h with
  | one _ o' e ho' he hb => rw [ho] at ho'; cases ho'; exact hall e he hb
  | more _ o' e i ho' he hb hw => rw [ho] at ho'; cases ho'; exact waits_listed hcl hw (hall e he hb)

/-- Where a run stands that has carried out the listed statements. -/
structure Mid (N : Names) (Γ : Ctx) (ops : Array Oper) (sts : List St) (E : Nat → Env) (hp : Nat → Heap) (w0 : World) (S0 : Nat → Prop) (μ0 : Nat → Value) (a0 : Act) (listed : Array Bool) (a : Act) (w : World) : Prop where
  size : listed.size = sts.length
  closed : ∀ (j : Nat) o, ops[j]? = some o → listed.getD j false = true → ∀ e ∈ o.after, Go.Region.binds .any e = true → listed.getD e.on false = true
  tmps : a.tmps.size = a0.tmps.size
  defers : a.defers = a0.defers
  state : ∃ S μ k, Step N.fn w0 S0 μ0 (hp 0) w S μ (hp k) ∧ (∀ t, RelV N.fn w S μ (hp k) (look (E (lastW sts (fun i => listed.getD i false) t sts.length)) t) (a.tmps.getD t undef)) ∧ GlRel Γ N w S ∧
    ((k = 0 ∧ ∀ (m : Nat) s, listed.getD m false = true → sts[m]? = some s → isX s.op = false) ∨
      ∃ (x : Nat) (s : St), k = x + 1 ∧ listed.getD x false = true ∧ sts[x]? = some s ∧ isX s.op = true ∧ ∀ (m : Nat) s', x < m → listed.getD m false = true → sts[m]? = some s' → isX s'.op = false)

theorem getD_set {listed : Array Bool} {i m : Nat} (hi : i < listed.size) : (listed.setIfInBounds i true).getD m false = (if i = m then true else listed.getD m false) := by
  by_cases h : i = m
  · subst h; simp [hi]
  · simp [Array.getD_eq_getD_getElem?, Array.getElem?_setIfInBounds_ne h, h]

theorem draw_sound (hcal : CallOk Γ N P cal) {nt : Nat} (hD : Draw ops sts) (hst : ∀ (j : Nat) s, sts[j]? = some s → ∃ o, ops[j]? = some o ∧ chkSt P N ops nt o s = true) {E : Nat → Env} {hp : Nat → Heap} {val : Nat → AV}
    (hC : Course Γ cal sts E hp val) {w0 : World} {S0 : Nat → Prop} {μ0 : Nat → Value} {a0 : Act} (hn : nt ≤ a0.tmps.size) {Q : Exit → Act → World → Prop}
    (hQ : ∀ a' w' S' μ', Step N.fn w0 S0 μ0 (hp 0) w' S' μ' (hp sts.length) → Env.Rel Γ N w' S' μ' (hp sts.length) (look (E sts.length)) a' → a'.tmps.size = a0.tmps.size → a'.defers = a0.defers → Q .normal a' w') :
    ∀ (fuel : Nat) (todo : List Nat) (listed : Array Bool) (a : Act) (w : World), todo.Nodup → (∀ i, i ∈ todo ↔ i < sts.length ∧ listed.getD i false = false) → todo.length ≤ fuel →
      Mid N Γ ops sts E hp w0 S0 μ0 a0 listed a w → Go.wpAny P .any ops Q fuel listed a w := by
  have done : ∀ (listed : Array Bool) (a : Act) (w : World), Mid N Γ ops sts E hp w0 S0 μ0 a0 listed a w → Go.Region.ready .any ops listed = [] → Q .normal a w := by
    intro listed a w hM hrd
    have all : ∀ i, i < sts.length → listed.getD i false = true := by
      intro i
      induction i using Nat.strongRecOn with
      | _ i ih =>
        intro hi
        cases hl : listed.getD i false with
        | true => rfl
        | false =>
          have ho : ops[i]? = some (ops[i]'(by rw [← hD.len]; exact hi)) := Array.getElem?_eq_getElem _
          have : i ∈ Go.Region.ready .any ops listed := Go.mem_ready.2 ⟨getD_in (by rw [hM.size]; exact hi) hl, _, ho, fun e he hb => ih e.on (hD.back i _ ho e he hb) (by have := hD.back i _ ho e he hb; omega)⟩
          rw [hrd] at this; cases this
    obtain ⟨S, μ, k, h1, h2, h3, h4⟩ := hM.state
    have hk : hp k = hp sts.length := by
      rcases h4 with ⟨rfl, h4⟩ | ⟨x, s, rfl, _, hx, _, h4⟩
      · refine (hC.quiets sts.length (Nat.le_refl _) fun k s hk hs => h4 k s (all k hk) hs).symm
      · have := (List.getElem?_eq_some_iff.1 hx).1
        exact (hC.between sts.length (by omega) (Nat.le_refl _) fun m s' h1 h2 hs' => h4 m s' (by omega) (all m h2) hs').symm
    rw [hk] at h1 h2
    refine hQ a w S μ h1 ⟨fun t => ?_, h3⟩ hM.tmps hM.defers
    have := hC.agree (L := fun i => listed.getD i false) (t := t) (i := sts.length) (fun k hd => ⟨fun _ => by
      unfold dstOf at hd
      cases hs : sts[k]? with
      | none => rw [hs] at hd; cases hd
      | some s => exact (List.getElem?_eq_some_iff.1 hs).1, fun h => all k h⟩) sts.length (Nat.le_refl _)
    rw [Nat.min_self] at this
    rw [← this]
    exact h2 t
  intro fuel
  induction fuel with
  | zero =>
    intro todo listed a w hnd htodo hlen hM
    have hemp : todo = [] := by cases todo with | nil => rfl | cons x l => simp at hlen
    have hrd : Go.Region.ready .any ops listed = [] := by
      rw [List.eq_nil_iff_forall_not_mem]
      intro i hi
      obtain ⟨hun, o, ho, _⟩ := Go.mem_ready.1 hi
      have : i ∈ todo := (htodo i).2 ⟨by rw [hD.len]; exact (Array.getElem?_eq_some_iff.1 ho).1, getD_both hun⟩
      rw [hemp] at this; cases this
    exact ⟨hrd, done listed a w hM hrd⟩
  | succ fuel ih =>
    intro todo listed a w hnd htodo hlen hM
    refine ⟨done listed a w hM, fun i hi => ?_⟩
    obtain ⟨hun, o, ho, hall⟩ := Go.mem_ready.1 hi
    have hun := getD_both hun
    have hin : i < sts.length := by rw [hD.len]; exact (Array.getElem?_eq_some_iff.1 ho).1
    have hs : sts[i]? = some sts[i] := List.getElem?_eq_getElem hin
    generalize sts[i] = s at hs
    obtain ⟨o', ho', hso⟩ := hst i s hs
    rw [ho] at ho'; cases ho'
    obtain ⟨S, μ, k, h1, h2, h3, h4⟩ := hM.state
    have wl : ∀ {j}, Waits ops i j → listed.getD j false = true := fun h => ready_waits hM.closed hi h
    have lw : ∀ {j}, Waits ops j i → listed.getD j false = false := fun {j} h => by
      cases hj : listed.getD j false with
      | false => rfl
      | true => rw [waits_listed hM.closed h hj] at hun; cases hun
    -- memory is as in the order of the text, for those that look at it
    have xnf : ∀ {s : St}, isX s.op = true → isFree s.op = false := fun {s} h => by
      cases hs : s.op with
      | inl q => rw [hs] at h; cases h
      | inr x => cases x <;> rfl
    have hhp : isFree s.op = false → hp i = hp k ∨ (isX s.op = false ∧ ∃ X, hp k = hp i ++ X) := fun hf => by
      have below : (∃ (x : Nat) (s : St), x ≤ i ∧ sts[x]? = some s ∧ isX s.op = true) → ∀ (m : Nat) s', m < i → sts[m]? = some s' → isX s'.op = true → listed.getD m false = true := fun hx m s' hm hs' hx' => by
        rcases hD.tail i s hs hf hx m s' hm hs' (xnf hx') with ⟨_, h⟩ | h
        · rw [h] at hx'; cases hx'
        · exact wl h
      rcases h4 with ⟨rfl, h4⟩ | ⟨x, s', rfl, hxl, hx, hxx, h4⟩
      · refine .inl (hC.quiets i (by omega) fun m s' hm hs' => ?_)
        cases hx : isX s'.op with
        | false => rfl
        | true => rw [h4 m s' (below ⟨m, s', by omega, hs', hx⟩ m s' hm hs' hx) hs'] at hx; cases hx
      · have h6 : i ≠ x := fun h => by subst h; rw [hun] at hxl; cases hxl
        by_cases h5 : i < x
        · -- a block was made ahead of its turn
          have alloc : ∀ (m : Nat) (s2 : St), i ≤ m → m < x + 1 → sts[m]? = some s2 → isX s2.op = true → isAlloc s2.op = true ∧ isX s.op = false := fun m s2 h7 h8 hs2 hx2 => by
            have hm : i ≠ m → isAlloc s2.op = true ∧ isX s.op = false := fun hne => by
              rcases hD.tail m s2 hs2 (xnf hx2) ⟨m, s2, Nat.le_refl _, hs2, hx2⟩ i s (by omega) hs hf with h | h
              · exact h
              · have hml : listed.getD m false = true := by
                  by_cases hmx : m = x
                  · rw [hmx]; exact hxl
                  · rcases hD.tail x s' hx (xnf hxx) ⟨x, s', Nat.le_refl _, hx, hxx⟩ m s2 (by omega) hs2 (xnf hx2) with ⟨_, h⟩ | h
                    · rw [h] at hx2; cases hx2
                    · exact waits_listed hM.closed h hxl
                rw [lw h] at hml; cases hml
            by_cases hne : i = m
            · subst hne
              rw [hs] at hs2; cases hs2
              rcases hD.tail x s' hx (xnf hxx) ⟨x, s', Nat.le_refl _, hx, hxx⟩ i s h5 hs hf with ⟨_, h⟩ | h
              · rw [h] at hx2; cases hx2
              · rw [lw h] at hxl; cases hxl
            · exact hm hne
          have hxs := (List.getElem?_eq_some_iff.1 hx).1
          obtain ⟨X, hX⟩ := hC.grows (k := i) (x + 1) (by omega) (by omega) fun m s2 h7 h8 hs2 hx2 => (alloc m s2 h7 h8 hs2 hx2).1
          exact .inr ⟨(alloc x s' (by omega) (by omega) hx hxx).2, X, hX⟩
        · refine .inl (hC.between i (by omega) (by omega) fun m s2 h7 h8 hs2 => ?_)
          cases hx2 : isX s2.op with
          | false => rfl
          | true => rw [h4 m s2 (by omega) (below ⟨x, s', by omega, hx, hxx⟩ m s2 h8 hs2 hx2) hs2] at hx2; cases hx2
    -- names are as in the order of the text
    have hnm : ∀ t ∈ s.names, look (E (lastW sts (fun i => listed.getD i false) t sts.length)) t = look (E i) t := fun t ht => by
      have := hC.agree (L := fun i => listed.getD i false) (t := t) (i := i) (fun m hd => by
        unfold dstOf at hd
        obtain ⟨s', hs', hd⟩ := Option.bind_eq_some_iff.1 hd
        obtain ⟨n1, n2⟩ := hD.names i s hs t ht m s' hs' hd
        refine ⟨fun hm => ?_, fun hm => wl (n1 hm)⟩
        rcases Nat.lt_trichotomy m i with h | h | h
        · exact h
        · subst h; have hm : listed.getD m false = true := hm; rw [hm] at hun; cases hun
        · have hm : listed.getD m false = true := hm; rw [lw (n2 h)] at hm; cases hm) sts.length (Nat.le_refl _)
      rw [this, Nat.min_eq_left (by omega)]
    have hev := hC.one i s hs
    obtain ⟨Hn, hσ, hX, hQn⟩ : ∃ Hn, evOne Γ cal s (fun t => if t ∈ s.reads then look (E i) t else .any) (hp k) = some (val i, Hn) ∧ (isX s.op = true → Hn = hp (i + 1)) ∧ (isX s.op = false → Hn = hp k) := by
      have hσ : evOne Γ cal s (fun t => if t ∈ s.reads then look (E i) t else .any) (hp i) = some (val i, hp (i + 1)) := by
        rw [← hev]
        exact evOne_congr fun t ht => by simp [ht]
      cases hf : isFree s.op with
      | true => exact ⟨hp k, evOne_free hf hσ, (fun hx => by rw [xnf hx] at hf; exact Bool.noConfusion hf), fun _ => rfl⟩
      | false =>
        rcases hhp hf with h | ⟨hx, X, hX⟩
        · exact ⟨hp (i + 1), by rw [← h]; exact hσ, fun _ => rfl, fun hx => by rw [hC.quiet hs hx, h]⟩
        · exact ⟨hp k, by rw [hX]; exact evOne_up hx hσ, (fun h => by rw [hx] at h; cases h), fun _ => rfl⟩
    have he : Env.Rel Γ N w S μ (hp k) (fun t => if t ∈ s.reads then look (E i) t else .any) a := by
      refine ⟨fun t => ?_, h3⟩
      by_cases ht : t ∈ s.reads
      · have := h2 t
        rw [hnm t (by simp [St.names, ht])] at this
        rw [if_pos ht]
        exact this
      · rw [if_neg ht]; exact .any _
    have hr : Rel N.fn w S μ (hp k) := h1.rel
    refine one_sound hcal ho hso he hr hσ fun u w' S' μ' hstep hu => ?_
    have hd : ∀ d, s.dst = some d → d < a.tmps.size := fun d hd => by
      simp only [chkSt, hd, Bool.and_eq_true, decide_eq_true_eq] at hso
      rw [hM.tmps]; omega
    have hset := fun m => getD_set (m := m) (i := i) (listed := listed) (by rw [hM.size]; exact hin)
    refine ih (todo.erase i) (listed.setIfInBounds i true) _ w' (hnd.erase i) (fun j => ?_) ?_ ⟨by simp [hM.size], fun j oj hoj hj e he hb => ?_, by rw [put_size]; exact hM.tmps, by rw [put_defers]; exact hM.defers, S', μ', ?_⟩
    · rw [hnd.mem_erase_iff, htodo j, hset j]
      by_cases h : i = j
      · subst h; simp
      · simp [h, Ne.symm h]
    · rw [List.length_erase_of_mem ((htodo i).2 ⟨hin, hun⟩)]; omega
    · rw [hset j] at hj
      rw [hset e.on]
      by_cases h1 : i = e.on
      · rw [if_pos h1]
      · rw [if_neg h1]
        by_cases h2 : i = j
        · subst h2
          rw [ho] at hoj; cases hoj
          exact hall e he hb
        · rw [if_neg h2] at hj
          exact hM.closed j oj hoj hj e he hb
    · have hdd : dstOf sts i = s.dst := by simp [dstOf, hs]
      have step' : Step N.fn w S μ (hp k) w' S' μ' Hn := hstep
      have slots : ∀ t, RelV N.fn w' S' μ' Hn (look (E (lastW sts (fun m => (listed.setIfInBounds i true).getD m false) t sts.length)) t) ((a.put s.dst u).tmps.getD t undef) := fun t => by
        by_cases ht : s.dst = some t
        · rw [lastW_at (i := i) (by simp [hset]) (by rw [hdd]; exact ht) sts.length hin fun m hm hml hmd => ?_]
          · rw [hC.env i s hs, look_put, if_pos ht, ht, put_getD_eq (hd t ht)]
            exact hu
          · rw [hset m, if_neg (by omega)]
            unfold dstOf at hmd
            obtain ⟨s', hs', hmd⟩ := Option.bind_eq_some_iff.1 hmd
            exact lw ((hD.names i s hs t (by simp [St.names, ht]) m s' hs' hmd).2 hm)
        · rw [put_getD_ne ht, lastW_congr (L' := fun m => listed.getD m false) sts.length fun m _ hmd => ?_]
          · exact (h2 t).step h1.rel step'
          · rw [hset m, if_neg fun e => ?_]
            subst e; rw [hdd] at hmd; exact ht hmd
      have ssteps : Step N.fn w0 S0 μ0 (hp 0) w' S' μ' Hn := h1.trans step'
      cases hx : isX s.op with
      | true =>
        have e := hX hx
        subst e
        refine ⟨i + 1, ssteps, slots, h3.step h1.rel step', .inr ⟨i, s, rfl, by simp [hset], hs, hx, fun m s' hm hl hs' => ?_⟩⟩
        rw [hset m, if_neg (by omega)] at hl
        cases hx' : isX s'.op with
        | false => rfl
        | true =>
          rcases hD.tail m s' hs' (xnf hx') ⟨m, s', Nat.le_refl _, hs', hx'⟩ i s hm hs (xnf hx) with ⟨_, h⟩ | h
          · rw [hx] at h; cases h
          · rw [lw h] at hl; cases hl
      | false =>
        have e := hQn hx
        subst e
        refine ⟨k, ssteps, slots, h3.step h1.rel step', ?_⟩
        rcases h4 with ⟨hk0, h4⟩ | ⟨x, s', hk, hxl, h5, h6, h4⟩
        · refine .inl ⟨hk0, fun m s' hm hs' => ?_⟩
          rw [hset m] at hm
          by_cases h : i = m
          · subst h; rw [hs] at hs'; cases hs'; exact hx
          · rw [if_neg h] at hm; exact h4 m s' hm hs'
        · have hxl' : (listed.setIfInBounds i true).getD x false = true := by
            rw [hset x]
            split
            · rfl
            · exact hxl
          refine .inr ⟨x, s', hk, hxl', h5, h6, fun m s2 hm hl hs2 => ?_⟩
          rw [hset m] at hl
          by_cases h : i = m
          · subst h; rw [hs] at hs2; cases hs2; exact hx
          · rw [if_neg h] at hl; exact h4 m s2 hm hl hs2
end
end Ab
/- A loop's head: blocks that nothing leads to are forgotten, the others get new numbers. -/
namespace Ab
open Go (IntKind BinOp UnOp World Value Addr Obj undef maxLen Program TypeId Oper Op Operand Act Sem Next Result execOp Builtin Calls Ending Exit)

theorem place_spec : ∀ {L : List Nat} {id i : Nat}, place L id = some i → L[i]? = some id
  | x :: r, id, i, h => by
    simp only [place] at h
    split at h
    · rename_i e; simp only [Option.some.injEq] at h; subst h; subst e; rfl
    · obtain ⟨j, hj, rfl⟩ := Option.map_eq_some_iff.1 h
      simpa using place_spec hj
  | [], _, _, h => by cases h

theorem reach_nodup {H : Heap} : ∀ (n : Nat) (todo acc : List Nat), acc.Nodup → (reach H n todo acc).Nodup
  | 0, _, acc, h => by simpa [reach] using h
  | _ + 1, [], acc, h => by simpa [reach] using h
  | n + 1, id :: r, acc, h => by
    unfold reach
    split
    · exact reach_nodup n r acc h
    · rename_i hc
      refine reach_nodup n _ _ (List.nodup_append.2 ⟨h, by simp, fun a ha b hb e => ?_⟩)
      simp only [List.mem_singleton] at hb
      subst hb; subst e
      exact hc (by simpa using ha)

section
variable {N : Names} {w : World} {S : Nat → Prop} {μ : Nat → Value} {H H' : Heap} {L : List Nat}

def picked (μ : Nat → Value) (L : List Nat) : Nat → Value := fun i => match L[i]? with | some id => μ id | none => undef

theorem pick_get (hp : Heap.pick H L = some H') {i : Nat} {b' : Blk} (hb : H'[i]? = some b') : ∃ id b, L[i]? = some id ∧ H[id]? = some b ∧ Blk.ren (place L) b = some b' := by
  obtain ⟨_, h⟩ := mapO_spec hp
  obtain ⟨id, h1, h2⟩ := h i b' hb
  obtain ⟨b, h3, h4⟩ := Option.bind_eq_some_iff.1 h2
  exact ⟨id, b, h1, h3, h4⟩

theorem ren_one {r : Nat → Option Nat} {d : Nat} {v v' : AV} (h : AV.ren r d v = some v') (h1 : v.one = true) : v'.one = true := by
  cases v <;> simp only [AV.one, Bool.false_eq_true] at h1
  case p v => cases d <;> (simp only [AV.ren, Option.some.injEq] at h; subst h; exact h1)
  case own => cases d <;> (simp only [AV.ren, Option.map_eq_some_iff] at h; obtain ⟨_, _, rfl⟩ := h; rfl)
  case bx => cases d <;> (simp only [AV.ren, Option.map_eq_some_iff] at h; obtain ⟨_, _, rfl⟩ := h; rfl)
  case el => cases d <;> (simp only [AV.ren, Option.map_eq_some_iff] at h; obtain ⟨_, _, rfl⟩ := h; rfl)
  case clo f cs =>
    cases d with
    | zero => simp [AV.ren] at h
    | succ d =>
      rw [show AV.ren r (d + 1) (.clo f cs) = (mapO (AV.ren r d) cs).map (.clo f) from rfl, Option.map_eq_some_iff] at h
      obtain ⟨_, _, rfl⟩ := h; rfl

theorem ren_cells {r : Nat → Option Nat} {d : Nat} {μ' : Nat → Value} {cs cs' : List AV} {us : Array Value} (hm : mapO (AV.ren r d) cs = some cs') (h1 : us.size = cs.length) (h3 : ∀ j c, cs[j]? = some c → RelV N.fn w S μ H c (us.getD j undef))
    (ih : ∀ {v v' u}, RelV N.fn w S μ H v u → AV.ren r d v = some v' → RelV N.fn w S μ' H' v' u) :
    us.size = cs'.length ∧ ((∀ c ∈ cs, c.one = true) → ∀ c ∈ cs', c.one = true) ∧ ∀ (j : Nat) c, cs'[j]? = some c → RelV N.fn w S μ' H' c (us.getD j undef) := by
  obtain ⟨hl, hg⟩ := mapO_spec hm
  refine ⟨by rw [h1, hl], fun ho c hc => ?_, fun j c hc => ?_⟩
  · obtain ⟨j, hj⟩ := List.getElem?_of_mem hc
    obtain ⟨x, hx, hx'⟩ := hg j c hj
    exact ren_one hx' (ho x (List.mem_of_getElem? hx))
  · obtain ⟨x, hx, hx'⟩ := hg j c hc
    exact ih (h3 j x hx) hx'

theorem ren_rel (hp : Heap.pick H L = some H') : ∀ (d : Nat) {v v' : AV} {u : Value}, RelV N.fn w S μ H v u → AV.ren (place L) d v = some v' → RelV N.fn w S (picked μ L) H' v' u := by
  have hlen : H'.length = L.length := (mapO_spec hp).1
  have at_ : ∀ {id i : Nat}, place L id = some i → i < H'.length ∧ picked μ L i = μ id ∧ ∀ b', H'[i]? = some b' → ∃ b, H[id]? = some b ∧ Blk.ren (place L) b = some b' := fun {id i} h => by
    have hi := place_spec h
    refine ⟨by rw [hlen]; exact (List.getElem?_eq_some_iff.1 hi).1, by simp [picked, hi], fun b' hb => ?_⟩
    obtain ⟨id', b, h1, h2, h3⟩ := pick_get hp hb
    rw [hi] at h1; cases h1
    exact ⟨b, h2, h3⟩
  have leaf : ∀ (d : Nat) {v v' : AV} {u : Value}, RelV N.fn w S μ H v u → AV.ren (place L) d v = some v' → (∀ cs, v ≠ .agg cs) → (∀ cs, v ≠ .tup cs) → (∀ f cs, v ≠ .clo f cs) → RelV N.fn w S (picked μ L) H' v' u := by
    intro d v v' u h hr h1 h2 h3
    cases h with
    | p v u h => cases d <;> (simp only [AV.ren, Option.some.injEq] at hr; subst hr; exact .p _ _ h)
    | own id n u hl h h1 =>
      have hr : (place L id).map (AV.own · n) = some v' := by cases d <;> simpa only [AV.ren] using hr
      obtain ⟨i, hi, rfl⟩ := Option.map_eq_some_iff.1 hr
      obtain ⟨a1, a2, a3⟩ := at_ hi
      refine .own i n u a1 (fun f sz xs e => ?_) h1
      obtain ⟨b, hb, hb'⟩ := a3 _ e
      cases b with
      | box cs => simp only [Blk.ren, Option.map_eq_some_iff] at hb'; obtain ⟨_, _, hb'⟩ := hb'; cases hb'
      | row f' sz' xs' =>
        simp only [Blk.ren, Option.some.injEq] at hb'; cases hb'
        rw [a2]; exact h f sz xs hb
    | bx id off g u hl h h1 =>
      have hr : (place L id).map (AV.bx · off) = some v' := by cases d <;> simpa only [AV.ren] using hr
      obtain ⟨i, hi, rfl⟩ := Option.map_eq_some_iff.1 hr
      obtain ⟨a1, a2, a3⟩ := at_ hi
      refine .bx i off g u a1 (fun cs e => ?_) h1
      obtain ⟨b, hb, hb'⟩ := a3 _ e
      cases b with
      | box cs' => rw [a2]; exact h cs' hb
      | row f' sz' xs' => simp only [Blk.ren, Option.some.injEq] at hb'; cases hb'
    | el id n i' off u hl h h1 =>
      have hr : (place L id).map (AV.el · n i' off) = some v' := by cases d <;> simpa only [AV.ren] using hr
      obtain ⟨i, hi, rfl⟩ := Option.map_eq_some_iff.1 hr
      obtain ⟨a1, a2, a3⟩ := at_ hi
      refine .el i n i' off u a1 (fun f sz xs e => ?_) h1
      obtain ⟨b, hb, hb'⟩ := a3 _ e
      cases b with
      | box cs => simp only [Blk.ren, Option.map_eq_some_iff] at hb'; obtain ⟨_, _, hb'⟩ := hb'; cases hb'
      | row f' sz' xs' =>
        simp only [Blk.ren, Option.some.injEq] at hb'; cases hb'
        rw [a2]; exact h f sz xs hb
    | nov => cases d <;> (simp only [AV.ren, Option.some.injEq] at hr; subst hr; exact .nov)
    | any u => cases d <;> (simp only [AV.ren, Option.some.injEq] at hr; subst hr; exact .any _)
    | agg cs => exact absurd rfl (h1 cs)
    | tup cs => exact absurd rfl (h2 cs)
    | clo f cs => exact absurd rfl (h3 f cs)
  intro d
  induction d with
  | zero =>
    intro v v' u h hr
    refine leaf 0 h hr ?_ ?_ ?_
    · rintro cs rfl; simp [AV.ren] at hr
    · rintro cs rfl; simp [AV.ren] at hr
    · rintro f cs rfl; simp [AV.ren] at hr
  | succ d ih =>
    intro v v' u h hr
    by_cases ha : ∃ cs, v = .agg cs
    · obtain ⟨cs, rfl⟩ := ha
      rw [show AV.ren (place L) (d + 1) (.agg cs) = (mapO (AV.ren (place L) d) cs).map .agg from rfl, Option.map_eq_some_iff] at hr
      obtain ⟨cs', hm, rfl⟩ := hr
      cases h with
      | agg _ us h1 h2 h3 =>
        obtain ⟨g1, g2, g3⟩ := ren_cells hm h1 h3 ih
        exact .agg cs' us g1 (g2 h2) g3
    · by_cases ht : ∃ cs, v = .tup cs
      · obtain ⟨cs, rfl⟩ := ht
        rw [show AV.ren (place L) (d + 1) (.tup cs) = (mapO (AV.ren (place L) d) cs).map .tup from rfl, Option.map_eq_some_iff] at hr
        obtain ⟨cs', hm, rfl⟩ := hr
        cases h with
        | tup _ us h1 h3 =>
          obtain ⟨g1, g2, g3⟩ := ren_cells hm h1 h3 ih
          exact .tup cs' us g1 g3
      · by_cases hc : ∃ f cs, v = .clo f cs
        · obtain ⟨f, cs, rfl⟩ := hc
          rw [show AV.ren (place L) (d + 1) (.clo f cs) = (mapO (AV.ren (place L) d) cs).map (.clo f) from rfl, Option.map_eq_some_iff] at hr
          obtain ⟨cs', hm, rfl⟩ := hr
          cases h with
          | clo _ _ us h1 h2 h3 =>
            obtain ⟨g1, g2, g3⟩ := ren_cells hm h1 h3 ih
            exact .clo f cs' us g1 (g2 h2) g3
        · exact leaf (d + 1) h hr (fun cs e => ha ⟨cs, e⟩) (fun cs e => ht ⟨cs, e⟩) (fun f cs e => hc ⟨f, cs, e⟩)

theorem alive_picked (hp : Heap.pick H L = some H') {i : Nat} {b' : Blk} (hb : H'[i]? = some b') (ha : isAlive b') : ∃ id b, L[i]? = some id ∧ H[id]? = some b ∧ isAlive b ∧ picked μ L i = μ id := by
  obtain ⟨id, b, h1, h2, h3⟩ := pick_get hp hb
  refine ⟨id, b, h1, h2, ?_, by simp [picked, h1]⟩
  cases b with
  | box cs => exact .inl ⟨cs, rfl⟩
  | row f sz xs =>
    simp only [Blk.ren, Option.some.injEq] at h3; subst h3
    rcases ha with ⟨_, h⟩ | ⟨sz', xs', h⟩
    · cases h
    · cases h; exact .inr ⟨_, _, rfl⟩

theorem run_pick (hr : Rel N.fn w S μ H) (hL : L.Nodup) (hp : Heap.pick H L = some H') : Run N.fn w S μ H w S (picked μ L) H' := by
  have hal : ∀ g, alive (picked μ L) H' g → alive μ H g := fun g h => by
    obtain ⟨i, b', h1, h2, h3⟩ := alive_iff.1 h
    obtain ⟨id, b, _, h5, h6, h7⟩ := alive_picked (μ := μ) hp h1 h2
    exact alive_iff.2 ⟨id, b, h5, h6, by rw [← h7]; exact h3⟩
  refine ⟨⟨hr.lt, fun i b' hb => ?_, fun g h => hr.apart g (hal g h), fun i j g hi hj ai aj => ?_⟩, ⟨rfl, rfl, rfl, Nat.le_refl _, fun _ _ _ => rfl, fun _ h => h, fun _ h _ => .inl h, fun g h _ => hal g h⟩⟩
  · obtain ⟨id, b, h1, h2, h3⟩ := pick_get hp hb
    have hb0 := hr.blk id b h2
    have hμ : picked μ L i = μ id := by simp [picked, h1]
    cases b with
    | box cs =>
      simp only [Blk.ren, Option.map_eq_some_iff] at h3
      obtain ⟨cs', hm, rfl⟩ := h3
      obtain ⟨g, e1, ⟨us, t, e2, e3, e4, e5⟩ | ⟨s, pos, rfl, e2⟩⟩ := hb0
      · obtain ⟨g1, g2, g3⟩ := ren_cells hm e3 e5 (ren_rel hp 3)
        exact ⟨g, by rw [hμ]; exact e1, .inl ⟨us, t, e2, g1, g2 e4, g3⟩⟩
      · simp only [iterCells, mapO, AV.ren, Option.some.injEq] at hm
        subst hm
        exact ⟨g, by rw [hμ]; exact e1, .inr ⟨s, pos, rfl, e2⟩⟩
    | row f sz xs =>
      simp only [Blk.ren, Option.some.injEq] at h3; subst h3
      simp only [BlkRel, hμ]
      exact hb0
  · have tr : ∀ i : Nat, ((∃ cs, H'[i]? = some (Blk.box cs)) ∨ ∃ sz xs, H'[i]? = some (Blk.row false sz xs)) → ∃ b', H'[i]? = some b' ∧ isAlive b' := by
      rintro i (⟨cs, h⟩ | ⟨sz, xs, h⟩)
      · exact ⟨_, h, .inl ⟨cs, rfl⟩⟩
      · exact ⟨_, h, .inr ⟨sz, xs, rfl⟩⟩
    obtain ⟨b1, h1, a1⟩ := tr i ai
    obtain ⟨b2, h2, a2⟩ := tr j aj
    obtain ⟨id1, c1, l1, k1, al1, m1⟩ := alive_picked (μ := μ) hp h1 a1
    obtain ⟨id2, c2, l2, k2, al2, m2⟩ := alive_picked (μ := μ) hp h2 a2
    have := hr.inj' k1 k2 al1 al2 (by rw [← m1]; exact hi) (by rw [← m2]; exact hj)
    subst this
    obtain ⟨x1, y1⟩ := List.getElem?_eq_some_iff.1 l1
    obtain ⟨x2, y2⟩ := List.getElem?_eq_some_iff.1 l2
    have pw := List.pairwise_iff_getElem.1 hL
    rcases Nat.lt_trichotomy i j with h | h | h
    · exact absurd (y1.trans y2.symm) (pw i j x1 x2 h)
    · exact h
    · exact absurd (y2.trans y1.symm) (pw j i x2 x1 h)
end

theorem look_prune {live : List Nat} {env : Env} {t : Nat} : look (prune live env) t = if t ∈ live then look env t else .any := by
  unfold prune
  induction live with
  | nil => simp [look]
  | cons x l ih =>
    simp only [List.map_cons, look, List.mem_cons]
    by_cases h : x = t
    · subst h; simp
    · rw [if_neg h, ih]
      simp [Ne.symm h]

theorem look_ren {r : Nat → Option Nat} : ∀ {e e' : Env} {t : Nat}, renEnv r e = some e' → look e' t = .any ∨ ∃ v, look e t = v ∧ AV.ren r 3 v = some (look e' t)
  | [], e', t, h => by simp only [renEnv, mapO, Option.some.injEq] at h; subst h; exact .inl rfl
  | (s, v) :: e, e', t, h => by
    simp only [renEnv, mapO] at h
    split at h
    · rename_i x hx
      split at h
      · rename_i xs hxs
        simp only [Option.some.injEq] at h; subst h
        obtain ⟨v', hv', rfl⟩ := Option.map_eq_some_iff.1 hx
        simp only [look]
        by_cases hs : s = t
        · simp only [hs, if_true]; exact .inr ⟨v, rfl, hv'⟩
        · simp only [hs, if_false]; exact look_ren hxs
      · cases h
    · cases h

section
variable {Γ : Ctx} {N : Names} {w : World} {S : Nat → Prop} {μ : Nat → Value} {H : Heap} {a : Act} {env : Env}

theorem Env.Rel.prune (he : Env.Rel Γ N w S μ H (look env) a) (live : List Nat) : Env.Rel Γ N w S μ H (look (Ab.prune live env)) a :=
  ⟨fun t => by
    rw [look_prune]
    split
    · exact he.env t
    · exact .any _, he.gl⟩

theorem norm_sound (hr : Ab.Rel N.fn w S μ H) (he : Env.Rel Γ N w S μ H (look env) a) {live : List Nat} {gc : Bool} {e : Env} {h : Heap} (hn : norm live gc env H = some (e, h)) :
    ∃ μ', Run N.fn w S μ H w S μ' h ∧ Env.Rel Γ N w S μ' h (look e) a := by
  simp only [norm] at hn
  split at hn
  · split at hn
    · rename_i e' H' h1 h2
      simp only [Option.some.injEq, Prod.mk.injEq] at hn
      obtain ⟨rfl, rfl⟩ := hn
      refine ⟨_, run_pick hr (reach_nodup _ _ _ (by simp)) h2, fun t => ?_, he.gl⟩
      rcases look_ren (t := t) h1 with h | ⟨v, hv, h⟩
      · rw [h]; exact .any _
      · refine ren_rel h2 3 ?_ h
        rw [← hv]
        exact (he.prune live).env t
    · cases hn
  · simp only [Option.some.injEq, Prod.mk.injEq] at hn
    obtain ⟨rfl, rfl⟩ := hn
    exact ⟨μ, .refl hr, he.prune live⟩
end
end Ab
/- Code: what the abstract machine runs, the model runs. -/
namespace Ab
open Go (IntKind BinOp UnOp World Value Addr Obj undef maxLen Program TypeId Oper Op Operand Act Sem Next Result execOp Builtin Calls Ending Exit)

def chkSts (P : Program) (N : Names) (ops : Array Oper) (nt : Nat) : List Oper → List St → Bool
  | [], [] => true
  | o :: os, s :: ss => chkSt P N ops nt o s && chkSts P N ops nt os ss
  | _, _ => false

def chkC (P : Program) (N : Names) (nt : Nat) : Go.Code → Code → Bool
  | .skip, .skip => true
  | .label _, .skip => true
  | .region _ ops draw, .ops _ l => chkSts P N ops nt ops.toList l && (match draw with | true => drawOk ops.toList l | false => true)
  | .seq a b, .seq a' b' => chkC P N nt a a' && chkC P N nt b b'
  | .cond c a b, .cond c' a' b' => chkArg N c c' && chkC P N nt a a' && chkC P N nt b b'
  | .block id c, .block _ id' c' => id == id' && chkC P N nt c c'
  | .loop c, .loop _ _ c' => chkC P N nt c c'
  | .exit id, .exit id' => id == id'
  | .ret, .ret => true
  | _, .bad => true
  | .scope c, c' => chkC P N nt c c'
  | _, _ => false

theorem chkSts_spec {P N ops nt} : ∀ {os ss}, chkSts P N ops nt os ss = true → ss.length = os.length ∧ ∀ (j : Nat) s, ss[j]? = some s → ∃ o, os[j]? = some o ∧ chkSt P N ops nt o s = true
  | [], [], _ => ⟨rfl, by simp⟩
  | o :: os, s :: ss, h => by
    simp only [chkSts, Bool.and_eq_true] at h
    obtain ⟨h1, h2⟩ := chkSts_spec h.2
    refine ⟨by simp [h1], fun j s' hj => ?_⟩
    cases j with
    | zero => simp only [List.getElem?_cons_zero, Option.some.injEq] at hj; subst hj; exact ⟨o, rfl, h.1⟩
    | succ j => simpa using h2 j s' (by simpa using hj)
  | [], _ :: _, h => by cases h
  | _ :: _, [], h => by cases h

def exitOf : Ex → Exit
  | .nrm => .normal
  | .ex i => .exit i
  | .ret => .ret

section
variable {Γ : Ctx} {N : Names} {P : Program}

/-- Where a run may go on. -/
def After (Γ : Ctx) (N : Names) (w : World) (S : Nat → Prop) (μ : Nat → Value) (H : Heap) (a : Act) (env' : Env) (H' : Heap) (K : Act → World → Prop) : Prop :=
  ∀ a' w' S' μ', Run N.fn w S μ H w' S' μ' H' → Env.Rel Γ N w' S' μ' H' (look env') a' → a'.tmps.size = a.tmps.size → a'.defers = a.defers → K a' w'

def CodeAt (Γ : Ctx) (N : Names) (P : Program) (n : Nat) : Prop :=
  ∀ (nt : Nat) (c : Go.Code) (c' : Code) (env : Env) (H : Heap) (e : Ex) (env' : Env) (H' : Heap), chkC P N nt c c' = true → ev Γ n c' env H = some (e, env', H') →
    ∀ w S μ a (Q : Exit → Act → World → Prop), Rel N.fn w S μ H → Env.Rel Γ N w S μ H (look env) a → nt ≤ a.tmps.size → After Γ N w S μ H a env' H' (Q (exitOf e)) → c.wp P Q a w
def RoundsAt (Γ : Ctx) (N : Names) (P : Program) (n : Nat) : Prop :=
  ∀ (nt : Nat) (c : Go.Code) (c' : Code) (live : List Nat) (gc : Bool) (env : Env) (H : Heap) (e : Ex) (env' : Env) (H' : Heap), chkC P N nt c c' = true → ev Γ n (.loop live gc c') env H = some (e, env', H') →
    ∀ w S μ a (Q : Exit → Act → World → Prop), Rel N.fn w S μ H → Env.Rel Γ N w S μ H (look env) a → nt ≤ a.tmps.size → After Γ N w S μ H a env' H' (Q (exitOf e)) → Go.Code.rounds P c Q n a w

theorem After.trans {w w1 : World} {S S1 : Nat → Prop} {μ μ1 : Nat → Value} {H H1 H' : Heap} {a a1 : Act} {env' : Env} {K : Act → World → Prop} (h : After Γ N w S μ H a env' H' K)
    (hr : Run N.fn w S μ H w1 S1 μ1 H1) (hs : a1.tmps.size = a.tmps.size) (hd : a1.defers = a.defers) : After Γ N w1 S1 μ1 H1 a1 env' H' K :=
  fun a' w' S' μ' hr' he hs' hd' => h a' w' S' μ' (hr.trans hr') he (hs'.trans hs) (hd'.trans hd)

theorem region_sound (hm : P.follows .mixedOrders = true) {cal : Nat → List AV → Heap → Option (List AV × Heap)} (hcal : CallOk Γ N P cal) {nt id : Nat} {ops : Array Oper} {draw : Bool} {l : List St} {env env' : Env} {H H' : Heap} {w : World} {S : Nat → Prop} {μ : Nat → Value} {a : Act}
    {Q : Exit → Act → World → Prop} (hc : chkSts P N ops nt ops.toList l = true) (hd : draw = true → drawOk ops.toList l = true) (hv : evSts Γ cal l env H = some (env', H')) (hr : Rel N.fn w S μ H) (he : Env.Rel Γ N w S μ H (look env) a)
    (hn : nt ≤ a.tmps.size) (hQ : After Γ N w S μ H a env' H' (Q .normal)) : (Go.Code.region id ops draw).wp P Q a w := by
  obtain ⟨hl, hst⟩ := chkSts_spec hc
  have hl : l.length = ops.size := by simpa using hl
  have hst : ∀ (j : Nat) s, l[j]? = some s → ∃ o, ops[j]? = some o ∧ chkSt P N ops nt o s = true := fun j s hj => by
    obtain ⟨o, h1, h2⟩ := hst j s hj
    exact ⟨o, by simpa using h1, h2⟩
  cases draw with
  | false =>
    refine Go.wp_region ?_
    rw [List.range_eq_range', ← hl]
    exact sts_sound hcal l 0 (fun j s hj => by simpa using hst j s hj) hv hr he hn fun a' w' S' μ' h1 h2 h3 h4 => hQ a' w' S' μ' h1.run h2 h3 h4
  | true =>
    refine Go.wp_region_any hm ?_
    obtain ⟨E, hp, val, hC, rfl, rfl, rfl, rfl⟩ := course_of l hv
    have hdrew : Step N.fn w S μ (hp 0) { w with drawn := w.drawn + 1 } S μ (hp 0) := .grow hr (Grows.drew w) (fun _ h => h) (fun g h => Nat.lt_of_lt_of_le (hr.lt g h) (Grows.drew w).size) (fun _ h => .inl h)
    have hrep : ∀ i, (Array.replicate ops.size false).getD i false = false := fun i => by
      rcases Nat.lt_or_ge i ops.size with h | h
      · simp [h]
      · simp [h]
    have e0 : ∀ n t, lastW l (fun i => (Array.replicate ops.size false).getD i false) t n = 0 := fun n t => by
      induction n with
      | zero => rfl
      | succ n ih => unfold lastW; rw [if_neg (by simp [hrep]), ih]
    refine draw_sound hcal (drawOk_spec hl (hd rfl)) hst hC (w0 := { w with drawn := w.drawn + 1 }) (S0 := S) (μ0 := μ) (a0 := a) hn (fun a' w' S' μ' h1 h2 h3 h4 => hQ a' w' S' μ' (hdrew.run.trans h1.run) h2 h3 h4)
      ops.size (List.range ops.size) _ a _ List.nodup_range (fun i => ?_) (by simp) ⟨by simp [hl], fun j o _ hj => ?_, rfl, rfl, S, μ, 0, .refl hdrew.rel, fun t => ?_, GlRel.step hr hdrew he.gl, .inl ⟨rfl, fun m s hm => ?_⟩⟩
    · rw [hrep i, hl]; simp
    · rw [hrep j] at hj; cases hj
    · rw [e0]; exact (he.env t).step hr hdrew
    · rw [hrep m] at hm; cases hm

theorem code_both (hm : P.follows .mixedOrders = true) : ∀ n, (∀ m < n, CallOk Γ N P (callOf Γ (ev Γ m))) → CodeAt Γ N P n ∧ RoundsAt Γ N P n
  | 0, _ => ⟨fun _ _ _ _ _ _ _ _ _ h => by simp [ev] at h, fun _ _ _ _ _ _ _ _ _ _ _ h => by simp [ev] at h⟩
  | n + 1, hcal => by
    obtain ⟨ihC, ihR⟩ := code_both hm n fun m h => hcal m (by omega)
    have hR : RoundsAt Γ N P (n + 1) := by
      intro nt c c' live gc env H e env' H' hc hv w S μ a Q hr he hn hQ
      rw [Go.rounds_succ]
      simp only [ev] at hv
      split at hv
      · cases hv
      · rename_i e1 h1 hnorm
        obtain ⟨μ1, hrun, he1⟩ := norm_sound hr he hnorm
        split at hv
        · rename_i env2 H2 hb
          refine ihC nt c c' e1 h1 _ _ _ hc hb w S μ1 a _ hrun.rel he1 hn fun a2 w2 S2 μ2 hrun2 he2 hs2 hd2 => ?_
          exact ihR nt c c' live gc env2 H2 e env' H' hc hv w2 S2 μ2 a2 Q hrun2.rel he2 (by omega) (hQ.trans (hrun.trans hrun2) hs2 hd2)
        · rename_i hno
          obtain ⟨ex, env2, H2⟩ : Out := (e, env', H')
          refine ihC nt c c' e1 h1 _ _ _ hc hv w S μ1 a _ hrun.rel he1 hn ?_
          have hQ := hQ.trans hrun rfl rfl
          cases e with
          | nrm => exact absurd hv (hno _ _)
          | ex i => exact hQ
          | ret => exact hQ
    refine ⟨?_, hR⟩
    intro nt c
    induction c with
    | scope c ih =>
      intro c' env H e env' H' hc hv w S μ a Q hr he hn hQ
      have hc : chkC P N nt c c' = true := by cases c' <;> first | exact hc | (simp [ev] at hv)
      refine Go.wp_scope_straight (ih c' env H e env' H' hc hv w S μ a _ hr he hn ?_)
      cases e <;> exact hQ
    | skip =>
      intro c' env H e env' H' hc hv w S μ a Q hr he hn hQ
      have nobad : c' ≠ .bad := by rintro rfl; simp [ev] at hv
      cases c' <;> first | (exact Bool.noConfusion hc) | (exact absurd rfl nobad) | skip
      simp only [ev, Option.some.injEq, Prod.mk.injEq] at hv
      obtain ⟨rfl, rfl, rfl⟩ := hv
      exact Go.wp_skip (hQ a w S μ (.refl hr) he rfl rfl)
    | label l =>
      intro c' env H e env' H' hc hv w S μ a Q hr he hn hQ
      have nobad : c' ≠ .bad := by rintro rfl; simp [ev] at hv
      cases c' <;> first | (exact Bool.noConfusion hc) | (exact absurd rfl nobad) | skip
      simp only [ev, Option.some.injEq, Prod.mk.injEq] at hv
      obtain ⟨rfl, rfl, rfl⟩ := hv
      exact Go.wp_label (hQ a w S μ (.refl hr) he rfl rfl)
    | ret =>
      intro c' env H e env' H' hc hv w S μ a Q hr he hn hQ
      have nobad : c' ≠ .bad := by rintro rfl; simp [ev] at hv
      cases c' <;> first | (exact Bool.noConfusion hc) | (exact absurd rfl nobad) | skip
      simp only [ev, Option.some.injEq, Prod.mk.injEq] at hv
      obtain ⟨rfl, rfl, rfl⟩ := hv
      exact Go.wp_ret (hQ a w S μ (.refl hr) he rfl rfl)
    | exit id =>
      intro c' env H e env' H' hc hv w S μ a Q hr he hn hQ
      have nobad : c' ≠ .bad := by rintro rfl; simp [ev] at hv
      cases c' <;> first | (exact Bool.noConfusion hc) | (exact absurd rfl nobad) | skip
      simp only [ev, Option.some.injEq, Prod.mk.injEq] at hv
      obtain ⟨rfl, rfl, rfl⟩ := hv
      simp only [chkC, beq_iff_eq] at hc
      subst hc
      exact Go.wp_exit (hQ a w S μ (.refl hr) he rfl rfl)
    | region id ops draw =>
      intro c' env H e env' H' hc hv w S μ a Q hr he hn hQ
      have nobad : c' ≠ .bad := by rintro rfl; simp [ev] at hv
      cases c' <;> first | (exact Bool.noConfusion hc) | (exact absurd rfl nobad) | skip
      rename_i live l
      simp only [ev, Option.map_eq_some_iff, Prod.mk.injEq] at hv
      obtain ⟨⟨env1, H1⟩, hv, rfl, rfl, rfl⟩ := hv
      simp only [chkC, Bool.and_eq_true] at hc
      refine region_sound hm (hcal n (by omega)) hc.1 (fun h => by subst h; exact hc.2) hv hr he hn fun a' w' S' μ' h1 h2 h3 h4 => ?_
      exact hQ a' w' S' μ' h1 (h2.prune live) h3 h4
    | seq x y _ _ =>
      intro c' env H e env' H' hc hv w S μ a Q hr he hn hQ
      have nobad : c' ≠ .bad := by rintro rfl; simp [ev] at hv
      cases c' <;> first | (exact Bool.noConfusion hc) | (exact absurd rfl nobad) | skip
      rename_i x' y'
      simp only [chkC, Bool.and_eq_true] at hc
      refine Go.wp_seq ?_
      simp only [ev] at hv
      split at hv
      · rename_i env1 H1 h1
        refine ihC nt x x' _ _ _ _ _ hc.1 h1 w S μ a _ hr he hn fun a1 w1 S1 μ1 hrun he1 hs hd => ?_
        exact ihC nt y y' _ _ _ _ _ hc.2 hv w1 S1 μ1 a1 Q hrun.rel he1 (by omega) (hQ.trans hrun hs hd)
      · rename_i hno
        refine ihC nt x x' _ _ _ _ _ hc.1 hv w S μ a _ hr he hn ?_
        cases e with
        | nrm => exact absurd hv (hno _ _)
        | ex i => exact hQ
        | ret => exact hQ
    | cond g x y _ _ =>
      intro c' env H e env' H' hc hv w S μ a Q hr he hn hQ
      have nobad : c' ≠ .bad := by rintro rfl; simp [ev] at hv
      cases c' <;> first | (exact Bool.noConfusion hc) | (exact absurd rfl nobad) | skip
      rename_i g' x' y'
      simp only [chkC, Bool.and_eq_true] at hc
      have hg := he.arg hc.1.1
      simp only [ev] at hv
      split at hv
      · rename_i t ht
        rw [ht] at hg
        refine Go.wp_cond hg.bool_inv ?_
        cases t with
        | true => exact ihC nt x x' _ _ _ _ _ hc.1.2 hv w S μ a Q hr he hn hQ
        | false => exact ihC nt y y' _ _ _ _ _ hc.2 hv w S μ a Q hr he hn hQ
      · cases hv
    | block id x _ =>
      intro c' env H e env' H' hc hv w S μ a Q hr he hn hQ
      have nobad : c' ≠ .bad := by rintro rfl; simp [ev] at hv
      cases c' <;> first | (exact Bool.noConfusion hc) | (exact absurd rfl nobad) | skip
      rename_i live id' x'
      simp only [chkC, Bool.and_eq_true, beq_iff_eq] at hc
      obtain ⟨rfl, hc⟩ := hc
      refine Go.wp_block ?_
      simp only [ev] at hv
      split at hv
      · rename_i env1 H1 h1
        simp only [Option.some.injEq, Prod.mk.injEq] at hv
        obtain ⟨rfl, rfl, rfl⟩ := hv
        exact ihC nt x x' _ _ _ _ _ hc h1 w S μ a _ hr he hn fun a1 w1 S1 μ1 hrun he1 hs hd => hQ a1 w1 S1 μ1 hrun (he1.prune live) hs hd
      · rename_i i env1 H1 h1
        refine ihC nt x x' _ _ _ _ _ hc h1 w S μ a _ hr he hn fun a1 w1 S1 μ1 hrun he1 hs hd => ?_
        simp only [exitOf, Go.Exit.inBlock]
        split at hv
        · rename_i hi
          simp only [Option.some.injEq, Prod.mk.injEq] at hv
          obtain ⟨rfl, rfl, rfl⟩ := hv
          rw [if_pos hi]
          exact hQ a1 w1 S1 μ1 hrun (he1.prune live) hs hd
        · rename_i hi
          simp only [Option.some.injEq, Prod.mk.injEq] at hv
          obtain ⟨rfl, rfl, rfl⟩ := hv
          rw [if_neg hi]
          exact hQ a1 w1 S1 μ1 hrun he1 hs hd
      · rename_i h1 h2
        refine ihC nt x x' _ _ _ _ _ hc hv w S μ a _ hr he hn fun a1 w1 S1 μ1 hrun he1 hs hd => ?_
        cases e with
        | nrm => exact absurd hv (h1 _ _)
        | ex i => exact absurd hv (h2 _ _ _)
        | ret => exact hQ a1 w1 S1 μ1 hrun he1 hs hd
    | loop x _ =>
      intro c' env H e env' H' hc hv w S μ a Q hr he hn hQ
      have nobad : c' ≠ .bad := by rintro rfl; simp [ev] at hv
      cases c' <;> first | (exact Bool.noConfusion hc) | (exact absurd rfl nobad) | skip
      rename_i live gc x'
      simp only [chkC] at hc
      exact Go.wp_loop_rounds (n + 1) (hR nt x x' live gc env H e env' H' hc hv w S μ a Q hr he hn hQ)
    | rangeFunc f ps x y => intro c' _ _ _ _ _ hc hv; cases c' <;> first | (exact Bool.noConfusion hc) | (simp [ev] at hv)
    | goto l => intro c' _ _ _ _ _ hc hv; cases c' <;> first | (exact Bool.noConfusion hc) | (simp [ev] at hv)
    | refuse s => intro c' _ _ _ _ _ hc hv; cases c' <;> first | (exact Bool.noConfusion hc) | (simp [ev] at hv)
end
end Ab
/- Functions: a call that the abstract machine answers, the model answers. -/
namespace Ab
open Go (IntKind BinOp UnOp World Value Addr Obj undef maxLen Program TypeId Oper Op Operand Act Sem Next Result execOp Builtin Calls Ending Exit)

def chkRes (P : Program) : List Go.ResultVar → List RV → Bool
  | [], [] => true
  | .tmp t :: rs, .slot t' :: ss => t == t' && chkRes P rs ss
  | .cell t T :: rs, .cell t' sz ag :: ss => t == t' && aggT P T ag && sizeT P T sz && chkRes P rs ss
  | _, _ => false

def chkF (P : Program) (N : Names) (g : Go.Func) (fn : AFn) : Bool :=
  decide (fn.np ≤ g.ntmps) && chkRes P g.results.toList fn.results && !(g.name == "runtime.NumGoroutine") && (match g.body with | some c => chkC P N g.ntmps c fn.body | none => false)

/-- What is known of a function that is no code of ours. -/
def PrimOk (Γ : Ctx) (N : Names) (P : Program) (f : Nat) (g : List PV → Option (List PV)) : Prop :=
  ∀ ps rs, g ps = some rs → ∀ w S us, (∀ g, S g → g < w.heap.size) → GlRel Γ N w S → All2 (fun u p => RelP N.fn w S p u) us ps →
    Does P (N.fn f) us.toArray w (fun v w' => ∃ vs S', v = resVal vs ∧ Grows w w' ∧ (∀ g, S g → S' g) ∧ (∀ g, S' g → g < w'.heap.size) ∧ (∀ g, S' g → S g ∨ w.heap.size ≤ g) ∧
      All2 (fun u p => RelP N.fn w' S' p u) vs rs)

structure Known (Γ : Ctx) (N : Names) (P : Program) : Prop where
  mixed : P.follows .mixedOrders = true
  code : ∀ f fn, Γ.fn f = some (.code fn) → ∃ g, P.funcs[N.fn f]? = some g ∧ chkF P N g fn = true
  prim : ∀ f g, Γ.fn f = some (.prim g) → PrimOk Γ N P f g

section
variable {Γ : Ctx} {N : Names} {P : Program}

theorem look_init : ∀ {args : List AV} {t : Nat}, look (initEnv args) t = (args[t]?).getD .any := by
  have key : ∀ (args : List AV) (k t : Nat), look ((args.zipIdx k).map fun x => (x.2, x.1)) t = if k ≤ t then (args[t - k]?).getD .any else .any := by
    intro args
    induction args with
    | nil => intro k t; simp [look]
    | cons x r ih =>
      intro k t
      simp only [List.zipIdx_cons, List.map_cons, look]
      by_cases h : k = t
      · subst h; simp
      · rw [if_neg h, ih]
        by_cases hk : k ≤ t
        · rw [if_pos (by omega), if_pos hk, show t - k = (t - (k + 1)) + 1 by omega]; simp
        · rw [if_neg (by omega), if_neg hk]
  intro args t
  have := key args 0 t
  simpa [initEnv] using this

def resOf (tmps : Array Value) : Go.ResultVar → Sem Value
  | .tmp t => pure (tmps.getD t undef)
  | .cell x t => do Go.loadVar t (← Go.asAddr (tmps.getD x undef))

theorem loadA_ptr {w : World} {S : Nat → Prop} {μ : Nat → Value} {H : Heap} {x : Value} {x' v : AV} {sz : Nat} {ag : Bool} (_hr : Rel N.fn w S μ H) (hx : RelV N.fn w S μ H x' x) (hv : loadA H sz ag x' = some v) : ∃ ad, x = .pointer (some ad) := by
  unfold loadA at hv
  split at hv
  · cases hx with
    | p _ _ hx => cases hx with
      | ptr cells ad => exact ⟨ad, rfl⟩
  · cases hx with
    | bx _ _ g _ _ _ h => exact ⟨_, h⟩
  · rename_i id n i off
    obtain ⟨r, hb, hv⟩ := Option.bind_eq_some_iff.1 hv
    obtain ⟨y, hy, hv⟩ := Option.bind_eq_some_iff.1 hv
    obtain ⟨f, hb, hn⟩ := rowOf_spec hb
    have hi : i < n := by rw [← hn]; exact (List.getElem?_eq_some_iff.1 hy).1
    cases hx with
    | el _ _ _ _ _ hl h hone =>
    obtain ⟨_, h4⟩ := h f _ _ hb
    obtain ⟨g, cap, h5, rfl⟩ := h4 hn.symm hi
    exact ⟨_, rfl⟩
  · cases hv

theorem results_sound {w : World} {S : Nat → Prop} {μ : Nat → Value} {H : Heap} {a : Act} {env : Env} (hrel : Rel N.fn w S μ H) (he : Env.Rel Γ N w S μ H (look env) a) : ∀ {rs : List Go.ResultVar} {ss : List RV} {vs : List AV}, chkRes P rs ss = true → mapO (RV.get env H) ss = some vs →
    ∃ us, (rs.mapM (resOf a.tmps)).run P w = .ok us w ∧ All2 (fun u x => RelV N.fn w S μ H x u) us vs
  | [], [], vs, _, h => by
    simp only [mapO, Option.some.injEq] at h; subst h
    exact ⟨[], by simp, trivial⟩
  | .tmp t :: rs, .slot t' :: ss, vs, hc, h => by
    simp only [chkRes, Bool.and_eq_true, beq_iff_eq] at hc
    obtain ⟨rfl, hc⟩ := hc
    simp only [mapO, RV.get] at h
    split at h
    · rename_i xs hxs
      simp only [Option.some.injEq] at h; subst h
      obtain ⟨us, h1, h2⟩ := results_sound hrel he hc hxs
      refine ⟨a.tmps.getD t undef :: us, ?_, he.env t, h2⟩
      simp only [List.mapM_cons, resOf, Go.Sem.run_bind, Go.Sem.run_pure, Go.Result.andThen_ok, h1]
    · cases h
  | .cell t T :: rs, .cell t' sz ag :: ss, vs, hc, h => by
    simp only [chkRes, Bool.and_eq_true, beq_iff_eq] at hc
    obtain ⟨⟨⟨rfl, hc1⟩, hc2⟩, hc⟩ := hc
    simp only [mapO, RV.get] at h
    split at h
    · rename_i x hx
      split at h
      · rename_i xs hxs
        simp only [Option.some.injEq] at h; subst h
        obtain ⟨us, h1, h2⟩ := results_sound hrel he hc hxs
        obtain ⟨ad, had⟩ := loadA_ptr hrel (he.env t) hx
        obtain ⟨u, h3, h4⟩ := q_load (P := P) hrel (aggT_spec hc1) (sizeT_spec hc2) (he.env t) hx
        rw [had] at h3
        have h3 : (Go.loadVar T ad).run P w = .ok u w := by simpa [Go.Instr.loadAt, Go.Instr.sureAddr] using h3
        refine ⟨u :: us, ?_, h4, h2⟩
        simp only [List.mapM_cons, resOf, had, Go.asAddr, Go.Sem.run_bind, Go.Sem.run_pure, Go.Result.andThen_ok, h3, h1]
      · cases h
    · cases h
  | .cell _ _ :: _, .slot _ :: _, _, hc, _ => by simp [chkRes] at hc
  | .tmp _ :: _, .cell _ _ _ :: _, _, hc, _ => by simp [chkRes] at hc
  | [], _ :: _, _, hc, _ => by simp [chkRes] at hc
  | .tmp _ :: _, [], _, hc, _ => by simp [chkRes] at hc
  | .cell _ _ :: _, [], _, hc, _ => by simp [chkRes] at hc

theorem run_results {fn : Go.Func} {tmps : Array Value} {w : World} {us : List Value}
    (h : (fn.results.toList.mapM (resOf tmps)).run P w = .ok us w) :
    (Go.results fn tmps).run P w = .ok (resVal us) w := by
  have e : Go.results fn tmps = (do let vs ← fn.results.mapM (resOf tmps); pure (if h : vs.size = 1 then vs[0] else .tuple vs)) := rfl
  rw [e, Array.mapM_eq_mapM_toList]
  simp only [Go.Sem.run_bind, h, Go.Result.andThen_ok, bind_assoc, map_eq_pure_bind, pure_bind, Go.Sem.run_pure]
  match us with
  | [] => simp [resVal]
  | [x] => simp [resVal]
  | x :: y :: r => simp [resVal]

theorem all_ok (K : Known Γ N P) : ∀ n, CallOk Γ N P (callOf Γ (ev Γ n)) := by
  intro n
  induction n using Nat.strongRecOn with
  | _ n ih =>
    intro f args H rs H' hc
    have hcode := (code_both (Γ := Γ) (N := N) (P := P) K.mixed n ih).1
    unfold callOf at hc
    split at hc
    · rename_i g hg
      split at hc
      · rename_i ps hps
        split at hc
        · rename_i qs hqs
          simp only [Option.some.injEq, Prod.mk.injEq] at hc
          obtain ⟨rfl, rfl⟩ := hc
          have h2 := K.prim f g hg ps qs hqs
          refine fun w S μ us hr hgl ha => (h2 w S us hr.lt hgl ?_).mono ?_
          · have := pures_spec hps
            subst this
            have ha := ha.get
            refine .of_get (by simpa using ha.1) fun j x y hx hy => ?_
            exact (ha.2 j x (.p y) hx (by simp [hy])).p_inv
          · rintro e w' ⟨vs, S', rfl, hg, g1, g2, g3, hv⟩
            exact ⟨vs, S', μ, rfl, (Step.grow hr hg g1 g2 g3).run, All2.map_right (hv.imp fun u p h => .p _ _ h)⟩
        · cases hc
      · cases hc
    · rename_i fn hf
      obtain ⟨g, hg, hchk⟩ := K.code f fn hf
      simp only [chkF, Bool.and_eq_true, decide_eq_true_eq] at hchk
      obtain ⟨⟨⟨c1, c2⟩, c3⟩, c4⟩ := hchk
      split at c4
      rotate_left
      · cases c4
      rename_i body hbody
      split at hc
      rotate_left
      · cases hc
      rename_i hlen
      have henter : Enters P (N.fn f) := fun us w => by
        have hnm : (g.name == "runtime.NumGoroutine") = false := by simpa using c3
        simp only [beq_eq_false_iff_ne, ne_eq] at hnm
        simp [Go.callFunc, hg, hnm, hbody]
      intro w S μ us hr hgl ha
      refine .inl ⟨henter _ _, Go.calls_of_wp hg hbody ?_⟩
      have hul : us.length = args.length := ha.get.1
      have he0 : Env.Rel Γ N w S μ H (look (initEnv args)) { tmps := us.toArray ++ Array.replicate (g.ntmps - us.toArray.size) undef, defers := [] } := by
        refine ⟨fun t => ?_, hgl⟩
        rw [look_init]
        rcases Nat.lt_or_ge t args.length with h | h
        · rw [List.getElem?_eq_getElem h, Option.getD_some]
          have := ha.get.2 t (us[t]'(by omega)) args[t] (List.getElem?_eq_getElem _) (List.getElem?_eq_getElem _)
          have e : (us.toArray ++ Array.replicate (g.ntmps - us.toArray.size) undef).getD t undef = us[t]'(by omega) := by
            rw [Array.getD_eq_getD_getElem?, Array.getElem?_append_left (by simp; omega)]
            simp [List.getElem?_eq_getElem (show t < us.length by omega)]
          rw [e]; exact this
        · rw [List.getElem?_eq_none h, Option.getD_none]; exact .any _
      split at hc
      · cases hc
      · rename_i ex env' H1 hno hev
        split at hc
        · rename_i vs hvs
          simp only [Option.some.injEq, Prod.mk.injEq] at hc
          obtain ⟨rfl, rfl⟩ := hc
          refine hcode g.ntmps body fn.body (initEnv args) H ex env' H1 c4 hev w S μ _ _ hr he0 (by simp; omega) fun a' w' S' μ' hrun he' hs hd => ?_
          obtain ⟨us', h1, h2⟩ := results_sound hrun.rel he' c2 hvs
          have h3 := run_results h1
          cases ex with
          | nrm => exact ⟨hd, _, h3, _, rfl, us', S', μ', rfl, hrun, h2⟩
          | ret => exact ⟨hd, _, h3, _, rfl, us', S', μ', rfl, hrun, h2⟩
          | ex i => exact (hno i rfl).elim
        · cases hc
      · cases hc
    · cases hc

/-- What the abstract machine answers, called with trees, the model answers. -/
theorem run_sound (K : Known Γ N P) {n f : Nat} {ps rs : List PV} {r : List AV × Heap} {us : List Value} {w : World} {T : Nat → Prop} (hT : ∀ g, T g → g < w.heap.size) (hgl : GlRel Γ N w T)
    (ha : All2 (fun u p => RelP N.fn w T p u) us ps) (hc : callOf Γ (ev Γ n) f (ps.map .p) [] = some r) (hrs : mapO (reify r.2 4) r.1 = some rs) :
    Does P (N.fn f) us.toArray w (fun v w' => ∃ vs, v = resVal vs ∧ Grows w w' ∧
      All2 (fun u p => RelP N.fn w' (fun g => T g ∨ (w.heap.size ≤ g ∧ g < w'.heap.size)) p u) vs rs) :=
  pure_call (all_ok K n) hT hgl ha hc hrs
end
end Ab
