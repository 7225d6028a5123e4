/- Which of the model's operations an abstract one stands for; that it does what the abstract one says. -/
import Derived.Test.YtgdkafbcchkplaaGreatDoorAbX6
namespace Ab
open Go (IntKind BinOp UnOp World Value Addr Obj undef maxLen Program TypeId Oper Op Operand Act Sem Next Result execOp Builtin)

def chkArgs (N : Names) : List Operand → List Arg → Bool
  | [], [] => true
  | x :: xs, y :: ys => chkArg N x y && chkArgs N xs ys
  | _, _ => false
def chkO (N : Names) : Option Operand → Option Arg → Bool
  | none, none => true
  | some x, some y => chkArg N x y
  | _, _ => false
def chkParts (N : Names) (pl : Nat → Option (Nat × Nat)) : List (Nat × Operand) → List Parts → Bool
  | [], [] => true
  | x :: xs, y :: ys => (match pl x.1 with | some r => r.1 == y.off && r.2 == y.sz | none => false) && chkArg N x.2 y.arg && chkParts N pl xs ys
  | _, _ => false
def sizeT (P : Program) (T : TypeId) (sz : Nat) : Bool := match P.info? T with | some i => i.size == sz | none => false
def aggT (P : Program) (T : TypeId) (ag : Bool) : Bool := match aggB P T with | some b => b == ag | none => false
def intIs (P : Program) (T : TypeId) (k : IntKind) : Bool := match intT P T with | some k' => k' == k | none => false
def fieldAt (P : Program) (T : TypeId) (k : Nat) : Option Go.Field := (fieldsT P T).bind fun fs => fs[k]?

theorem sizeT_spec {P T sz} (h : sizeT P T sz = true) : (P.info? T).map (·.size) = some sz := by
  unfold sizeT at h
  split at h
  · rename_i i hi; simp only [beq_iff_eq] at h; simp [hi, h]
  · cases h
theorem aggT_spec {P T ag} (h : aggT P T ag = true) : aggB P T = some ag := by
  unfold aggT at h
  split at h
  · rename_i b hb; simp only [beq_iff_eq] at h; rw [hb, h]
  · cases h
theorem intIs_spec {P T k} (h : intIs P T k = true) : intT P T = some k := by
  unfold intIs at h
  split at h
  · rename_i b hb; simp only [beq_iff_eq] at h; rw [hb, h]
  · cases h
theorem fieldAt_spec {P T k f} (h : fieldAt P T k = some f) : ∃ fs, fieldsT P T = some fs ∧ fs[k]? = some f := Option.bind_eq_some_iff.1 h

def callOp (o : Oper) : Option (Go.Callee × List Operand × List TypeId) := match o.op with | .call c => some (c.callee, c.args.toList, c.argTypes.toList) | _ => none

def chkQ (P : Program) (N : Names) (o : Oper) : QOp → Bool
  | .bad => true
  | .mov x => match o.op with | .move y | .assign y => chkArg N y x | _ => false
  | .pick c a b => match o.op with | .pick c' a' b' => chkArg N c' c && chkArg N a' a && chkArg N b' b | _ => false
  | .nilchk x => match o.op with | .nilCheck y => chkArg N y x | _ => false
  | .bin op x y => match o.op with | .binOp op' _ x' y' _ => decide (op' = op) && chkArg N x' x && chkArg N y' y | _ => false
  | .eqs ks neg x y => match o.op with | .binOp op T x' y' _ => decide (op = if neg then .neq else .eql) && eqsT P T ks && chkArg N x' x && chkArg N y' y | _ => false
  | .eqk kd neg x y => match o.op with | .binOp op T x' y' _ => decide (op = if neg then .neq else .eql) && eqkT P T kd && chkArg N x' x && chkArg N y' y | _ => false
  | .un op x => match o.op with | .unOp op' _ x' => decide (op' = op) && chkArg N x' x | _ => false
  | .conv k x => match o.op with | .convert s d x' => (intT P s).isSome && intIs P d k && chkArg N x' x | _ => false
  | .same x => match o.op with | .convert s d x' => strT P s && strT P d && chkArg N x' x | _ => false
  | .strOf x => match o.op with | .convert s d x' => (match slT P s with | some e => intIs P e .u8 | none => false) && strT P d && chkArg N x' x | _ => false
  | .runeStr x => match o.op with | .convert s d x' => (intT P s).isSome && strT P d && chkArg N x' x | _ => false
  | .len s x => match callOp o with | some (.builtin .len, [x'], [T]) => (if s then strT P T else (slT P T).isSome) && chkArg N x' x | _ => false
  | .idx x i => match o.op with | .index T x' i' => strT P T && chkArg N x' x && chkArg N i' i | _ => false
  | .aidx sz ag n x i => match o.op with | .index T x' i' => (match arrT P T with | some (n', e) => n' == n && aggT P e ag && sizeT P e sz | none => false) && chkArg N x' x && chkArg N i' i | _ => false
  | .fld off sz ag x => match o.op with | .field T x' k => (match fieldAt P T k with | some f => f.offset == off && aggT P f.type ag && sizeT P f.type sz | none => false) && chkArg N x' x | _ => false
  | .faddr off x => match o.op with | .fieldAddr T x' k => (match fieldAt P T k with | some f => f.offset == off && (P.info? f.type).any (·.size != 0) | none => false) && chkArg N x' x | _ => false
  | .iaddr sz x i => match o.op with | .indexAddr T x' i' => (match slT P T with | some e => sizeT P e sz | none => false) && decide (0 < sz) && chkArg N x' x && chkArg N i' i | _ => false
  | .iaddrA sz n x i => match o.op with | .indexAddr T x' i' => (match arrT P T with | some (n', e) => n' == n && sizeT P e sz | none => false) && chkArg N x' x && chkArg N i' i | _ => false
  | .load sz ag x => match o.op with | .load T x' => aggT P T ag && sizeT P T sz && chkArg N x' x | _ => false
  | .sliceS x lo hi => match o.op with | .slice T x' lo' hi' none => strT P T && chkArg N x' x && chkO N lo' lo && chkO N hi' hi | _ => false
  | .slice sz x lo hi => match o.op with | .slice T x' lo' hi' none => (match slT P T with | some e => sizeT P e sz | none => false) && chkArg N x' x && chkO N lo' lo && chkO N hi' hi | _ => false
  | .build zero parts => match o.op with | .build T ps => zeroT P T zero && fieldsKnown P T && chkParts N (placeT P T) ps.toList parts | _ => false
  | .bslice sz ag n zero parts => match o.op with
    | .buildSlice T n' ps => (match slT P T with | some e => sizeT P e sz && bsZero P e (n * sz) zero | none => false) && n' == n && decide (0 < sz) && (ag || sz == 1) && decide (n * sz ≤ 16777216) && chkParts N (fun i => some (i * sz, sz)) ps.toList parts
    | _ => false
  | .ext x i => match o.op with | .extract x' i' => i' == i && chkArg N x' x | _ => false
  | .minmax mx xs => match callOp o with | some (.builtin b, xs', _) => decide (b = if mx then .max else .min) && chkArgs N xs' xs | _ => false
  | .clos f caps => match o.op with | .makeFunc (.func f') first caps' => f' == N.fn f && first.toList.isEmpty && chkArgs N caps'.toList caps | _ => false
  | .call f args => match callOp o with | some (.value f', xs', _) => chkArg N f' f && chkArgs N xs' args | _ => false

section
variable {Γ : Ctx} {N : Names} {P : Program} {w : World} {S : Nat → Prop} {μ : Nat → Value} {H : Heap} {σ : Nat → AV} {a : Act}

theorem Env.Rel.args (he : Env.Rel Γ N w S μ H σ a) : ∀ {xs ys}, chkArgs N xs ys = true → All2 (fun u v => RelV N.fn w S μ H v u) (xs.map a.eval) (ys.map (Arg.ev Γ σ))
  | [], [], _ => trivial
  | x :: xs, y :: ys, h => by
    simp only [chkArgs, Bool.and_eq_true] at h
    exact ⟨he.arg h.1, he.args h.2⟩
  | [], _ :: _, h => by cases h
  | _ :: _, [], h => by cases h
theorem Env.Rel.opt (he : Env.Rel Γ N w S μ H σ a) : ∀ {x y}, chkO N x y = true → RelO N.fn w S μ H (y.map (Arg.ev Γ σ)) (x.map a.eval)
  | none, none, _ => trivial
  | some x, some y, h => he.arg h
  | none, some _, h => by cases h
  | some _, none, h => by cases h
theorem Env.Rel.parts (he : Env.Rel Γ N w S μ H σ a) {pl : Nat → Option (Nat × Nat)} : ∀ {xs ys}, chkParts N pl xs ys = true →
    All2 (fun (x : Nat × Value) (y : Nat × Nat × AV) => pl x.1 = some (y.1, y.2.1) ∧ RelV N.fn w S μ H y.2.2 x.2) (xs.map fun x => (x.1, a.eval x.2)) (ys.map fun q => (q.off, q.sz, q.arg.ev Γ σ))
  | [], [], _ => trivial
  | x :: xs, y :: ys, h => by
    simp only [chkParts, Bool.and_eq_true] at h
    obtain ⟨⟨h1, h2⟩, h3⟩ := h
    refine ⟨⟨?_, he.arg h2⟩, he.parts h3⟩
    split at h1
    · rename_i r hr
      simp only [Bool.and_eq_true, beq_iff_eq] at h1
      rw [hr]
      exact congrArg some (Prod.ext h1.1 h1.2)
    · cases h1
  | [], _ :: _, h => by cases h
  | _ :: _, [], h => by cases h

/-- A quiet operation, carried out. -/
def QDone (N : Names) (P : Program) (w : World) (S : Nat → Prop) (μ : Nat → Value) (H : Heap) (o : Oper) (a : Act) (v : AV) : Prop :=
  ∃ u w' S', (execOp a.eval o).run P w = .ok (.value u) w' ∧ Step N.fn w S μ H w' S' μ H ∧ RelV N.fn w' S' μ H v u

theorem QDone.of (hr : Rel N.fn w S μ H) {o : Oper} {v : AV} {r : Sem Value} (he : execOp a.eval o = (do pure (.value (← r)))) (h : ∃ u, r.run P w = .ok u w ∧ RelV N.fn w S μ H v u) : QDone N P w S μ H o a v := by
  obtain ⟨u, h1, h2⟩ := h
  exact ⟨u, w, S, by simp [he, h1], .refl hr, h2⟩
theorem QDone.val (hr : Rel N.fn w S μ H) {o : Oper} {v : AV} {u : Value} (he : execOp a.eval o = pure (.value u)) (h : RelV N.fn w S μ H v u) : QDone N P w S μ H o a v :=
  ⟨u, w, S, by simp [he], .refl hr, h⟩

theorem exec_builtin {o : Oper} {b : Builtin} {xs : List Operand} {Ts : List TypeId} (h : callOp o = some (.builtin b, xs, Ts)) :
    ∃ cs, execOp a.eval o = Go.builtin b Ts.toArray o.type cs (xs.map a.eval).toArray := by
  unfold callOp at h
  split at h
  · rename_i c hc
    simp only [Option.some.injEq, Prod.mk.injEq] at h
    obtain ⟨h1, h2, h3⟩ := h
    refine ⟨c.args.map fun | .const _ => true | _ => false, ?_⟩
    have e1 : Ts.toArray = c.argTypes := by rw [← h3]
    have e2 : (xs.map a.eval).toArray = c.args.map a.eval := by rw [← h2, ← Array.toList_map]
    rw [e1, e2]
    simp only [execOp, hc, Go.resolve, h1]
    rfl
  · cases h

theorem q_sound {o : Oper} {q : QOp} {v : AV} {call : Nat → List AV → Heap → Option (List AV × Heap)} (hq : ∀ f args, q ≠ .call f args) (hc : chkQ P N o q = true) (he : Env.Rel Γ N w S μ H σ a) (hr : Rel N.fn w S μ H)
    (hv : evQ Γ call σ H q = some v) : QDone N P w S μ H o a v := by
  cases q with
  | mov x =>
    simp only [chkQ] at hc
    simp only [evQ, Option.some.injEq] at hv; subst hv
    split at hc
    · rename_i y hy; exact .val hr (by simp only [execOp, hy]) (he.arg hc)
    · rename_i y hy; exact .val hr (by simp only [execOp, hy]) (he.arg hc)
    · cases hc
  | pick c x y =>
    simp only [chkQ] at hc
    split at hc
    · rename_i c' x' y' hy
      simp only [Bool.and_eq_true] at hc
      obtain ⟨u, h1, h2⟩ := q_pick (P := P) he hc.1.1 hc.1.2 hc.2 hv
      exact ⟨u, w, S, by simp only [execOp, hy]; exact h1, .refl hr, h2⟩
    · cases hc
  | nilchk x =>
    simp only [chkQ] at hc
    split at hc
    · rename_i y hy
      have hx := he.arg hc
      obtain ⟨rfl, h⟩ := q_nilchk hx hv
      refine .val hr (u := a.eval y) ?_ hx
      simp only [execOp, hy]
      rcases h with ⟨ad, h⟩ | ⟨f, cs, h⟩ <;> simp only [h]
    · cases hc
  | bin op x y =>
    simp only [chkQ] at hc
    split at hc
    · rename_i op' T x' y' _ hy
      simp only [Bool.and_eq_true, decide_eq_true_eq] at hc
      obtain ⟨⟨rfl, h1⟩, h2⟩ := hc
      exact .of hr (by simp only [execOp, hy]) (q_bin (T := T) (he.arg h1) (he.arg h2) hv)
    · cases hc
  | eqs ks neg x y =>
    simp only [chkQ] at hc
    split at hc
    · rename_i op' T x' y' _ hy
      simp only [Bool.and_eq_true, decide_eq_true_eq] at hc
      obtain ⟨⟨⟨h0, ht⟩, h1⟩, h2⟩ := hc
      exact .of hr (by simp only [execOp, hy]) (q_eqs h0 ht (he.arg h1) (he.arg h2) hv)
    · cases hc
  | eqk kd neg x y =>
    simp only [chkQ] at hc
    split at hc
    · rename_i op' T x' y' _ hy
      simp only [Bool.and_eq_true, decide_eq_true_eq] at hc
      obtain ⟨⟨⟨h0, ht⟩, h1⟩, h2⟩ := hc
      exact .of hr (by simp only [execOp, hy]) (q_eqk h0 ht (he.arg h1) (he.arg h2) hv)
    · cases hc
  | un op x =>
    simp only [chkQ] at hc
    split at hc
    · rename_i op' T x' hy
      simp only [Bool.and_eq_true, decide_eq_true_eq] at hc
      obtain ⟨rfl, h1⟩ := hc
      exact .of hr (by simp only [execOp, hy]) (q_un (he.arg h1) hv)
    · cases hc
  | conv k x =>
    simp only [chkQ] at hc
    split at hc
    · rename_i s d x' hy
      simp only [Bool.and_eq_true] at hc
      obtain ⟨⟨h1, h2⟩, h3⟩ := hc
      obtain ⟨k0, h1⟩ := Option.isSome_iff_exists.1 h1
      exact .of hr (by simp only [execOp, hy]) (q_conv h1 (intIs_spec h2) (he.arg h3) hv)
    · cases hc
  | runeStr x =>
    simp only [chkQ] at hc
    split at hc
    · rename_i s d x' hy
      simp only [Bool.and_eq_true] at hc
      obtain ⟨⟨h1, h2⟩, h3⟩ := hc
      obtain ⟨k0, h1⟩ := Option.isSome_iff_exists.1 h1
      exact .of hr (by simp only [execOp, hy]) (q_runeStr h1 h2 (he.arg h3) hv)
    · cases hc
  | same x =>
    simp only [chkQ] at hc
    split at hc
    · rename_i s d x' hy
      simp only [Bool.and_eq_true] at hc
      exact .of hr (by simp only [execOp, hy]) (q_same hc.1.1 hc.1.2 (he.arg hc.2) hv)
    · cases hc
  | strOf x =>
    simp only [chkQ] at hc
    split at hc
    · rename_i s d x' hy
      simp only [Bool.and_eq_true] at hc
      obtain ⟨⟨h1, h2⟩, h3⟩ := hc
      split at h1
      · rename_i e hs
        exact .of hr (by simp only [execOp, hy]) (q_strOf hr hs (intIs_spec h1) h2 (he.arg h3) hv)
      · cases h1
    · cases hc
  | len s x =>
    simp only [chkQ] at hc
    split at hc
    · rename_i x' T hy
      simp only [Bool.and_eq_true] at hc
      obtain ⟨h1, h2⟩ := hc
      obtain ⟨cs, hx⟩ := exec_builtin (a := a) hy
      simp only [evQ, Option.map_eq_some_iff] at hv
      obtain ⟨n, hn, rfl⟩ := hv
      refine .of hr (r := Go.Builtin.len_ #[T] o.type #[a.eval x']) (by rw [hx]; rfl) ⟨_, q_len (t0 := o.type) hr ?_ (he.arg h2) hn, .p _ _ (.int _ _)⟩
      cases s <;> simpa using h1
    · cases hc
  | idx x i =>
    simp only [chkQ] at hc
    split at hc
    · rename_i T x' i' hy
      simp only [Bool.and_eq_true] at hc
      exact .of hr (by simp only [execOp, hy]) (q_idx hc.1.1 (he.arg hc.1.2) (he.arg hc.2) hv)
    · cases hc
  | aidx sz ag n x i =>
    simp only [chkQ] at hc
    split at hc
    · rename_i T x' i' hy
      simp only [Bool.and_eq_true] at hc
      obtain ⟨⟨h1, h2⟩, h3⟩ := hc
      split at h1
      · rename_i n' e hT
        simp only [Bool.and_eq_true, beq_iff_eq] at h1
        obtain ⟨⟨rfl, h4⟩, h5⟩ := h1
        exact .of hr (by simp only [execOp, hy]) (q_aidx hT (aggT_spec h4) (sizeT_spec h5) (he.arg h2) (he.arg h3) hv)
      · cases h1
    · cases hc
  | fld off sz ag x =>
    simp only [chkQ] at hc
    split at hc
    · rename_i T x' k hy
      simp only [Bool.and_eq_true] at hc
      obtain ⟨h1, h2⟩ := hc
      split at h1
      · rename_i f hf
        obtain ⟨fs, hT, hf⟩ := fieldAt_spec hf
        simp only [Bool.and_eq_true, beq_iff_eq] at h1
        obtain ⟨⟨ho, h4⟩, h5⟩ := h1
        exact .of hr (by simp only [execOp, hy]) (q_fld hT hf ho (aggT_spec h4) (sizeT_spec h5) (he.arg h2) hv)
      · cases h1
    · cases hc
  | faddr off x =>
    simp only [chkQ] at hc
    split at hc
    · rename_i T x' k hy
      simp only [Bool.and_eq_true] at hc
      obtain ⟨h1, h2⟩ := hc
      split at h1
      · rename_i f hf
        obtain ⟨fs, hT, hf⟩ := fieldAt_spec hf
        simp only [Bool.and_eq_true, beq_iff_eq] at h1
        exact .of hr (by simp only [execOp, hy]) (q_faddr hT hf h1.1 h1.2 (he.arg h2) hv)
      · cases h1
    · cases hc
  | iaddr sz x i =>
    simp only [chkQ] at hc
    split at hc
    · rename_i T x' i' hy
      simp only [Bool.and_eq_true, decide_eq_true_eq] at hc
      obtain ⟨⟨⟨h1, h0⟩, h2⟩, h3⟩ := hc
      split at h1
      · rename_i e hT
        exact .of hr (by simp only [execOp, hy]) (q_iaddr h0 hr hT (sizeT_spec h1) (he.arg h2) (he.arg h3) hv)
      · cases h1
    · cases hc
  | iaddrA sz n x i =>
    simp only [chkQ] at hc
    split at hc
    · rename_i T x' i' hy
      simp only [Bool.and_eq_true] at hc
      obtain ⟨⟨h1, h2⟩, h3⟩ := hc
      split at h1
      · rename_i n' e hT
        simp only [Bool.and_eq_true, beq_iff_eq] at h1
        obtain ⟨rfl, h5⟩ := h1
        exact .of hr (by simp only [execOp, hy]) (q_iaddrA hT (sizeT_spec h5) (he.arg h2) (he.arg h3) hv)
      · cases h1
    · cases hc
  | load sz ag x =>
    simp only [chkQ] at hc
    split at hc
    · rename_i T x' hy
      simp only [Bool.and_eq_true] at hc
      exact .of hr (by simp only [execOp, hy]) (q_load hr (aggT_spec hc.1.1) (sizeT_spec hc.1.2) (he.arg hc.2) hv)
    · cases hc
  | sliceS x lo hi =>
    simp only [chkQ] at hc
    split at hc
    · rename_i T x' lo' hi' hy
      simp only [Bool.and_eq_true] at hc
      obtain ⟨⟨⟨h1, h2⟩, h3⟩, h4⟩ := hc
      exact .of hr (by simp only [execOp, hy]; rfl) (q_sliceS h1 (he.arg h2) (he.opt h3) (he.opt h4) hv)
    · cases hc
  | slice sz x lo hi =>
    simp only [chkQ] at hc
    split at hc
    · rename_i T x' lo' hi' hy
      simp only [Bool.and_eq_true] at hc
      obtain ⟨⟨⟨h1, h2⟩, h3⟩, h4⟩ := hc
      split at h1
      · rename_i e hT
        exact .of hr (by simp only [execOp, hy]; rfl) (q_slice hT (sizeT_spec h1) (he.arg h2) (he.opt h3) (he.opt h4) hv)
      · cases h1
    · cases hc
  | build zero parts =>
    simp only [chkQ] at hc
    split at hc
    · rename_i T ps hy
      simp only [Bool.and_eq_true] at hc
      obtain ⟨⟨h1, h2⟩, h3⟩ := hc
      simp only [evQ, Option.map_eq_some_iff] at hv
      obtain ⟨res, hv, rfl⟩ := hv
      refine .of hr (r := Go.Instr.build T (ps.toList.map fun x => (x.1, a.eval x.2)).toArray) ?_ (q_build h1 h2 (he.parts h3) hv)
      simp only [execOp, hy]
      have : (ps.toList.map fun x => (x.1, a.eval x.2)).toArray = ps.map fun x => (x.1, a.eval x.2) := by rw [← Array.toList_map]
      rw [this]
    · cases hc
  | bslice sz ag n zero parts =>
    simp only [chkQ] at hc
    split at hc
    · rename_i T n' ps hy
      simp only [Bool.and_eq_true, decide_eq_true_eq, beq_iff_eq, Bool.or_eq_true] at hc
      obtain ⟨⟨⟨⟨⟨h1, rfl⟩, h0⟩, hag⟩, hn⟩, h3⟩ := hc
      split at h1
      · rename_i e hT
        simp only [Bool.and_eq_true] at h1
        have hag' : ag = false → sz = 1 := fun e => by
          rcases hag with h | h
          · rw [h] at e; cases e
          · exact h
        obtain ⟨us, h4, h5⟩ := q_bslice (N := N) (μ := μ) (H := H) (parts := ps.toList.map fun x => (x.1, a.eval x.2)) hr.lt hT (sizeT_spec h1.1) h0 hag' (by omega) h1.2
          (by
            have := he.parts h3
            refine this.imp fun x y hxy => ⟨?_, hxy.2⟩
            simpa using hxy.1) hv
        refine ⟨_, _, _, ?_, .grow hr (Grows.alloc w _) (fun g h => .inl h) (fun g h => ?_) (fun g h => ?_), h5⟩
        · have e1 : (ps.toList.map fun x => (x.1, a.eval x.2)).toArray = ps.map fun x => (x.1, a.eval x.2) := by rw [← Array.toList_map]
          rw [e1] at h4
          simp only [execOp, hy]
          simp [h4]
        · rcases h with h | h
          · exact Nat.lt_of_lt_of_le (hr.lt g h) (Grows.alloc w _).size
          · subst h; simp
        · rcases h with h | h
          · exact .inl h
          · exact .inr (by omega)
      · cases h1
    · cases hc
  | ext x i =>
    simp only [chkQ] at hc
    split at hc
    · rename_i x' i' hy
      simp only [Bool.and_eq_true, beq_iff_eq] at hc
      obtain ⟨rfl, h2⟩ := hc
      exact .of hr (by simp only [execOp, hy]) (q_ext (he.arg h2) hv)
    · cases hc
  | minmax mx xs =>
    simp only [chkQ] at hc
    split at hc
    · rename_i b xs' Ts hy
      simp only [Bool.and_eq_true, decide_eq_true_eq] at hc
      obtain ⟨rfl, h2⟩ := hc
      obtain ⟨cs, hx⟩ := exec_builtin (a := a) hy
      have := q_minmax (P := P) (mx := mx) (t0 := o.type) (ts := Ts.toArray) (he.args h2) hv
      refine .of hr (r := if mx then Go.Builtin.max_ Ts.toArray o.type (xs'.map a.eval).toArray else Go.Builtin.min_ Ts.toArray o.type (xs'.map a.eval).toArray) ?_ this
      rw [hx]
      cases mx <;> rfl
    · cases hc
  | clos f caps =>
    simp only [chkQ] at hc
    split at hc
    · rename_i f' first caps' hy
      simp only [Bool.and_eq_true, beq_iff_eq, List.isEmpty_iff] at hc
      obtain ⟨⟨rfl, h1⟩, h2⟩ := hc
      have hf : first = #[] := by simpa using h1
      simp only [evQ, ifB] at hv
      split at hv
      · rename_i hall
        simp only [Option.some.injEq] at hv; subst hv
        have := q_clos (f := f) (he.args h2) (fun c hc => List.all_eq_true.1 hall c hc)
        have e1 : (caps'.toList.map a.eval).toArray = caps'.map a.eval := by rw [← Array.toList_map]
        rw [e1] at this
        refine .of hr (r := pure (.func (.func (N.fn f)) #[] (caps'.map a.eval))) ?_ ⟨_, by simp, this⟩
        simp only [execOp, hy, hf, Go.Instr.makeFunc]
        simp
      · cases hv
    · cases hc
  | call f args => exact absurd rfl (hq f args)
  | bad => cases hv
end
end Ab
