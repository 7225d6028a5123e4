import Derived.Test.YtlgclfmmnifgoaaGreatDoorAbX14
import Derived.Test.YtlgclfmmnifgoaaGreatDoorAbX8
namespace Ab
open Go (IntKind BinOp UnOp World Value Addr Obj undef maxLen Program TypeId Oper Op Operand Act Sem Next Result execOp Builtin)
def gq (N : Names) : List Operand → List Arg → Bool
 | [],[] => true
 | x :: xs,y :: ys => ak N x y && gq N xs ys
 | _,_ => false
def chkO (N : Names) : Option Operand → Option Arg → Bool
 | none,none => true
 | some x,some y => ak N x y
 | _,_ => false
def gg (N : Names) (pl : Nat → Option (Nat × Nat)) : List (Nat × Operand) → List Parts → Bool
 | [],[] => true
 | x :: xs,y :: ys => (match pl x.1 with | some r => r.1 == y.off && r.2 == y.sz | none => false) && ak N x.2 y.arg && gg N pl xs ys
 | _,_ => false
def fW (P : Program) (T : TypeId) (sz : Nat) : Bool := match P.info? T with | some i => i.size == sz | none => false
def aggT (P : Program) (T : TypeId) (ag : Bool) : Bool := match aggB P T with | some b => b == ag | none => false
def BV (P : Program) (T : TypeId) (k : IntKind) : Bool := match intT P T with | some k' => k' == k | none => false
def fieldAt (P : Program) (T : TypeId) (k : Nat) : Option Go.Field := (kO P T).bind fun fs => fs[k]?
theorem aM {P T sz} (h : fW P T sz = true) : (P.info? T).map (·.size) = some sz := by
 unfold fW at h
 split at h
 ·rename_i i hi; simp only [beq_iff_eq] at h; simp [hi,h]
 ·cases h
theorem gY {P T ag} (h : aggT P T ag = true) : aggB P T = some ag := by
 unfold aggT at h
 split at h
 ·rename_i b hb; simp only [beq_iff_eq] at h; rw [hb,h]
 ·cases h
theorem lA {P T k} (h : BV P T k = true) : intT P T = some k := by
 unfold BV at h
 split at h
 ·rename_i b hb; simp only [beq_iff_eq] at h; rw [hb,h]
 ·cases h
theorem lJ {P T k f} (h : fieldAt P T k = some f) : ∃ fs,kO P T = some fs ∧ fs[k]? = some f := Option.bind_eq_some_iff.1 h
def d6 (o : Oper) : Option (Go.Callee × List Operand × List TypeId) := match o.op with | .call c => some (c.callee,c.args.toList,c.argTypes.toList) | _ => none
theorem xq {H : Heap} {x k v : AV} (h : yp H x k = some v) : (asLen H false x).map (fun (n : Nat) => AV.p (.int .i64 (n : Int))) = some v := by
 unfold yp at h
 split at h
 ·obtain ⟨cs,_,h2⟩ := Option.bind_eq_some_iff.1 h
  exact (ifB_some.1 h2).2
 ·cases h
theorem uE {H : Heap} {sz ag} {x k v : AV} (h : oA H sz ag x k = some v) : eH H sz ag x = some v := by
 unfold oA at h
 split at h
 ·split at h
  ·exact h
  ·cases h
 ·cases h
def chkQ (P : Program) (N : Names) (o : Oper) : QOp → Bool
 | .bad => true
 | .mov x => match o.op with | .move y | .assign y => ak N y x | _ => false
 | .pick c a b => match o.op with | .pick c' a' b' => ak N c' c && ak N a' a && ak N b' b | _ => false
 | .nilchk x => match o.op with | .nilCheck y => ak N y x | _ => false
 | .bin op x y => match o.op with | .binOp op' _ x' y' _ => decide (op' = op) && ak N x' x && ak N y' y | _ => false
 | .eqs ks neg x y => match o.op with | .binOp op T x' y' _ => decide (op = if neg then .neq else .eql) && (eqsT P T ks || eqaT P T ks) && ak N x' x && ak N y' y | _ => false
 | .eqk kd neg x y => match o.op with | .binOp op T x' y' _ => decide (op = if neg then .neq else .eql) && eqkT P T kd && ak N x' x && ak N y' y | _ => false
 | .un op x => match o.op with | .unOp op' _ x' => decide (op' = op) && ak N x' x | _ => false
 | .conv k x => match o.op with | .convert s d x' => (intT P s).isSome && BV P d k && ak N x' x | _ => false
 | .same x => match o.op with | .convert s d x' => strT P s && strT P d && ak N x' x | _ => false
 | .strOf x => match o.op with | .convert s d x' => (match slT P s with | some e => BV P e .u8 | none => false) && strT P d && ak N x' x | _ => false
 | .runeStr x => match o.op with | .convert s d x' => (intT P s).isSome && strT P d && ak N x' x | _ => false
 | .len s x => match d6 o with | some (.builtin .len,[x'],[T]) => (if s then strT P T else (slT P T).isSome) && ak N x' x | _ => false
 | .idx x i => match o.op with | .index T x' i' => strT P T && ak N x' x && ak N i' i | _ => false
 | .aidx sz ag n x i => match o.op with | .index T x' i' => (match arrT P T with | some (n',e) => n' == n && aggT P e ag && fW P e sz | none => false) && ak N x' x && ak N i' i | _ => false
 | .fld off sz ag x => match o.op with | .field T x' k => (match fieldAt P T k with | some f => f.offset == off && aggT P f.type ag && fW P f.type sz | none => false) && ak N x' x | _ => false
 | .faddr off x => match o.op with | .fieldAddr T x' k => (match fieldAt P T k with | some f => f.offset == off && (P.info? f.type).any (·.size != 0) | none => false) && ak N x' x | _ => false
 | .iaddr sz x i => match o.op with | .indexAddr T x' i' => (match slT P T with | some e => fW P e sz | none => false) && decide (0 < sz) && ak N x' x && ak N i' i | _ => false
 | .iaddrA sz n x i => match o.op with | .indexAddr T x' i' => (match arrT P T with | some (n',e) => n' == n && fW P e sz | none => false) && ak N x' x && ak N i' i | _ => false
 | .load sz ag x => match o.op with | .load T x' => aggT P T ag && fW P T sz && ak N x' x | _ => false
 | .sliceS x lo hi => match o.op with | .slice T x' lo' hi' none => strT P T && ak N x' x && chkO N lo' lo && chkO N hi' hi | _ => false
 | .slice sz x lo hi => match o.op with | .slice T x' lo' hi' none => (match slT P T with | some e => fW P e sz | none => false) && ak N x' x && chkO N lo' lo && chkO N hi' hi | _ => false
 | .build zero parts => match o.op with | .build T ps => oP P T zero && jA P T && gg N (sr P T) ps.toList parts | _ => false
 | .bslice sz ag n zero parts => match o.op with
  | .buildSlice T n' ps => (match slT P T with | some e => fW P e sz && lY P e (n * sz) zero | none => false) && n' == n && decide (0 < sz) && (ag || sz == 1) && decide (n * sz ≤ 16777216) && gg N (fun i => some (i * sz,sz)) ps.toList parts
  | _ => false
 | .appq sz x y => match d6 o with
  | some (.builtin .append,[x',y'],[T,T']) => T' == T && (match slT P T with | some e => rowT P e sz | none => false) && decide (0 < sz) && ak N x' x && ak N y' y
  | _ => false
 | .mget kd zero comma x k => match o.op with
  | .lookup T x' k' c => (match mapT P T with | some (kt,e) => (match P.underlying kt with | some d => kdIs kd d | none => false) && zeroV P e zero | none => false) && c == comma && ak N x' x && ak N k' k
  | _ => false
 | .mlen x => match d6 o with | some (.builtin .len,[x'],[T]) => (mapT P T).isSome && ak N x' x | _ => false
 | .wslice sz x lo hi => match o.op with | .slice T x' lo' hi' none => (match slT P T with | some e => fW P e sz | none => false) && ak N x' x && chkO N lo' lo && chkO N hi' hi | _ => false
 | .lenk x _ => match d6 o with | some (.builtin .len,[x'],[T]) => (slT P T).isSome && ak N x' x | _ => false
 | .loadk sz ag x _ => match o.op with | .load T x' => aggT P T ag && fW P T sz && ak N x' x | _ => false
 | .isnil neg x y => match o.op with | .binOp op T x' y' _ => decide (op = if neg then .neq else .eql) && (slT P T).isSome && ak N x' x && ak N y' y | _ => false
 | .ext x i => match o.op with | .extract x' i' => i' == i && ak N x' x | _ => false
 | .minmax mx xs => match d6 o with | some (.builtin b,xs',_) => decide (b = if mx then .max else .min) && gq N xs' xs | _ => false
 | .clos f caps => match o.op with | .makeFunc (.func f') first caps' => f' == N.fn f && first.toList.isEmpty && gq N caps'.toList caps | _ => false
 | .call f args => match d6 o with | some (.value f',xs',_) => ak N f' f && gq N xs' args | _ => false
 | .callr f args => match d6 o with | some (.value f',xs',_) => ak N f' f && gq N xs' args | _ => false
 | .mkt sz ag zero n c => match o.op with
  | .makeSlice T n' c' => (match slT P T with | some e => rowT P e sz && oP P e zero | none => false) && zero.length == sz && decide (0 < sz) && (ag || sz == 1) && ak N n' n && ak N c' c
  | _ => false
section
variable {Γ : Ctx} {N : Names} {P : Program} {w : World} {S : Nat → Prop} {μ : Nat → Value} {H : Heap} {σ : Nat → AV} {a : Act}
theorem Env.Rel.args (he : Env.Rel Γ N w S μ H σ a) : ∀ {xs ys},gq N xs ys = true → All2 (fun u v => RelV N.fn w S μ H v u) (xs.map a.eval) (ys.map (Arg.ev Γ σ))
 | [],[],_ => trivial
 | x :: xs,y :: ys,h => by
  simp only [gq,Bool.and_eq_true] at h
  exact ⟨he.arg h.1,he.args h.2⟩
 | [],_ :: _,h => by cases h
 | _ :: _,[],h => by cases h
theorem Env.Rel.opt (he : Env.Rel Γ N w S μ H σ a) : ∀ {x y},chkO N x y = true → RelO N.fn w S μ H (y.map (Arg.ev Γ σ)) (x.map a.eval)
 | none,none,_ => trivial
 | some x,some y,h => he.arg h
 | none,some _,h => by cases h
 | some _,none,h => by cases h
theorem Env.Rel.parts (he : Env.Rel Γ N w S μ H σ a) {pl : Nat → Option (Nat × Nat)} : ∀ {xs ys},gg N pl xs ys = true →
  All2 (fun (x : Nat × Value) (y : Nat × Nat × AV) => pl x.1 = some (y.1,y.2.1) ∧ RelV N.fn w S μ H y.2.2 x.2) (xs.map fun x => (x.1,a.eval x.2)) (ys.map fun q => (q.off,q.sz,q.arg.ev Γ σ))
 | [],[],_ => trivial
 | x :: xs,y :: ys,h => by
  simp only [gg,Bool.and_eq_true] at h
  obtain ⟨⟨h1,h2⟩,h3⟩ := h
  refine ⟨⟨?_,he.arg h2⟩,he.parts h3⟩
  split at h1
  ·rename_i r hr
   simp only [Bool.and_eq_true,beq_iff_eq] at h1
   rw [hr]
   exact congrArg some (Prod.ext h1.1 h1.2)
  ·cases h1
 | [],_ :: _,h => by cases h
 | _ :: _,[],h => by cases h
def QDone (N : Names) (P : Program) (w : World) (S : Nat → Prop) (μ : Nat → Value) (H : Heap) (o : Oper) (a : Act) (v : AV) : Prop :=
 ∃ u w' S',(execOp a.eval o).run P w = .ok (.value u) w' ∧ Step N.fn w S μ H w' S' μ H ∧ RelV N.fn w' S' μ H v u
theorem QDone.of (hr : Rel N.fn w S μ H) {o : Oper} {v : AV} {r : Sem Value} (he : execOp a.eval o = (do pure (.value (← r)))) (h : ∃ u,r.run P w = .ok u w ∧ RelV N.fn w S μ H v u) : QDone N P w S μ H o a v := by
 obtain ⟨u,h1,h2⟩ := h
 exact ⟨u,w,S,by simp [he,h1],.refl hr,h2⟩
theorem QDone.val (hr : Rel N.fn w S μ H) {o : Oper} {v : AV} {u : Value} (he : execOp a.eval o = pure (.value u)) (h : RelV N.fn w S μ H v u) : QDone N P w S μ H o a v :=
 ⟨u,w,S,by simp [he],.refl hr,h⟩
theorem bI {o : Oper} {b : Builtin} {xs : List Operand} {Ts : List TypeId} (h : d6 o = some (.builtin b,xs,Ts)) :
  ∃ cs,execOp a.eval o = Go.builtin b Ts.toArray o.type cs (xs.map a.eval).toArray := by
 unfold d6 at h
 split at h
 ·rename_i c hc
  simp only [Option.some.injEq,Prod.mk.injEq] at h
  obtain ⟨h1,h2,h3⟩ := h
  refine ⟨c.args.map fun | .const _ => true | _ => false,?_⟩
  have e1 : Ts.toArray = c.argTypes := by rw [← h3]
  have e2 : (xs.map a.eval).toArray = c.args.map a.eval := by rw [← h2,← Array.toList_map]
  rw [e1,e2]
  simp only [execOp,hc,Go.resolve,h1]
  rfl
 ·cases h
theorem mkt_spec {sz : Nat} {ag : Bool} {zero : List PV} {n c v : AV} (h : mktA sz ag zero n c = some v) : ∃ xs,v = .p (.sl .any sz xs) ∧ fe H sz ag zero n c = some (.own H.length xs.length,H ++ [.row false sz xs]) := by
 unfold mktA at h
 split at h
 ·simp only [Option.ite_none_right_eq_some,Option.some.injEq] at h
  obtain ⟨⟨h1,h2,h3,h4⟩,rfl⟩ := h
  exact ⟨_,rfl,by simp only [fe]; rw [if_pos ⟨h1,h2,h3⟩]; simp⟩
 ·cases h
theorem uH {o : Oper} {q : QOp} {v : AV} {call : Nat → List AV → Heap → Option (List AV × Heap)} (hq : q.plain = true) (hc : chkQ P N o q = true) (he : Env.Rel Γ N w S μ H σ a) (hr : Rel N.fn w S μ H)
  (hv : evQ Γ call σ H q = some v) : QDone N P w S μ H o a v := by
 cases q with
 | mov x =>
  simp only [chkQ] at hc
  simp only [evQ,Option.some.injEq] at hv; subst hv
  split at hc
  ·rename_i y hy; exact .val hr (by simp only [execOp,hy]) (he.arg hc)
  ·rename_i y hy; exact .val hr (by simp only [execOp,hy]) (he.arg hc)
  ·cases hc
 | pick c x y =>
  simp only [chkQ] at hc
  split at hc
  ·rename_i c' x' y' hy
   simp only [Bool.and_eq_true] at hc
   obtain ⟨u,h1,h2⟩ := q_pick (P := P) he hc.1.1 hc.1.2 hc.2 hv
   exact ⟨u,w,S,by simp only [execOp,hy]; exact h1,.refl hr,h2⟩
  ·cases hc
 | nilchk x =>
  simp only [chkQ] at hc
  split at hc
  ·rename_i y hy
   have hx := he.arg hc
   obtain ⟨rfl,h⟩ := q_nilchk hx hv
   refine .val hr (u := a.eval y) ?_ hx
   simp only [execOp,hy]
   rcases h with ⟨ad,h⟩ | ⟨f,cs,h⟩ <;> simp only [h]
  ·cases hc
 | bin op x y =>
  simp only [chkQ] at hc
  split at hc
  ·rename_i op' T x' y' _ hy
   simp only [Bool.and_eq_true,decide_eq_true_eq] at hc
   obtain ⟨⟨rfl,h1⟩,h2⟩ := hc
   exact .of hr (by simp only [execOp,hy]) (q_bin (T := T) (he.arg h1) (he.arg h2) hv)
  ·cases hc
 | eqs ks neg x y =>
  simp only [chkQ] at hc
  split at hc
  ·rename_i op' T x' y' _ hy
   simp only [Bool.and_eq_true,decide_eq_true_eq] at hc
   obtain ⟨⟨⟨h0,ht⟩,h1⟩,h2⟩ := hc
   rcases Bool.or_eq_true _ _ ▸ ht with ht | ht
   ·exact .of hr (by simp only [execOp,hy]) (q_eqs h0 ht (he.arg h1) (he.arg h2) hv)
   ·exact .of hr (by simp only [execOp,hy]) (q_eqa h0 ht (he.arg h1) (he.arg h2) hv)
  ·cases hc
 | eqk kd neg x y =>
  simp only [chkQ] at hc
  split at hc
  ·rename_i op' T x' y' _ hy
   simp only [Bool.and_eq_true,decide_eq_true_eq] at hc
   obtain ⟨⟨⟨h0,ht⟩,h1⟩,h2⟩ := hc
   exact .of hr (by simp only [execOp,hy]) (q_eqk h0 ht (he.arg h1) (he.arg h2) hv)
  ·cases hc
 | un op x =>
  simp only [chkQ] at hc
  split at hc
  ·rename_i op' T x' hy
   simp only [Bool.and_eq_true,decide_eq_true_eq] at hc
   obtain ⟨rfl,h1⟩ := hc
   exact .of hr (by simp only [execOp,hy]) (q_un (he.arg h1) hv)
  ·cases hc
 | conv k x =>
  simp only [chkQ] at hc
  split at hc
  ·rename_i s d x' hy
   simp only [Bool.and_eq_true] at hc
   obtain ⟨⟨h1,h2⟩,h3⟩ := hc
   obtain ⟨k0,h1⟩ := Option.isSome_iff_exists.1 h1
   exact .of hr (by simp only [execOp,hy]) (q_conv h1 (lA h2) (he.arg h3) hv)
  ·cases hc
 | runeStr x =>
  simp only [chkQ] at hc
  split at hc
  ·rename_i s d x' hy
   simp only [Bool.and_eq_true] at hc
   obtain ⟨⟨h1,h2⟩,h3⟩ := hc
   obtain ⟨k0,h1⟩ := Option.isSome_iff_exists.1 h1
   exact .of hr (by simp only [execOp,hy]) (zP h1 h2 (he.arg h3) hv)
  ·cases hc
 | same x =>
  simp only [chkQ] at hc
  split at hc
  ·rename_i s d x' hy
   simp only [Bool.and_eq_true] at hc
   exact .of hr (by simp only [execOp,hy]) (q_same hc.1.1 hc.1.2 (he.arg hc.2) hv)
  ·cases hc
 | strOf x =>
  simp only [chkQ] at hc
  split at hc
  ·rename_i s d x' hy
   simp only [Bool.and_eq_true] at hc
   obtain ⟨⟨h1,h2⟩,h3⟩ := hc
   split at h1
   ·rename_i e hs
    exact .of hr (by simp only [execOp,hy]) (q_strOf hr hs (lA h1) h2 (he.arg h3) hv)
   ·cases h1
  ·cases hc
 | len s x =>
  simp only [chkQ] at hc
  split at hc
  ·rename_i x' T hy
   simp only [Bool.and_eq_true] at hc
   obtain ⟨h1,h2⟩ := hc
   obtain ⟨cs,hx⟩ := bI (a := a) hy
   simp only [evQ,Option.map_eq_some_iff] at hv
   obtain ⟨n,hn,rfl⟩ := hv
   refine .of hr (r := Go.Builtin.len_ #[T] o.type #[a.eval x']) (by rw [hx]; rfl) ⟨_,q_len (t0 := o.type) hr ?_ (he.arg h2) hn,.p _ _ (.int _ _)⟩
   cases s <;> simpa using h1
  ·cases hc
 | idx x i =>
  simp only [chkQ] at hc
  split at hc
  ·rename_i T x' i' hy
   simp only [Bool.and_eq_true] at hc
   exact .of hr (by simp only [execOp,hy]) (q_idx hc.1.1 (he.arg hc.1.2) (he.arg hc.2) hv)
  ·cases hc
 | aidx sz ag n x i =>
  simp only [chkQ] at hc
  split at hc
  ·rename_i T x' i' hy
   simp only [Bool.and_eq_true] at hc
   obtain ⟨⟨h1,h2⟩,h3⟩ := hc
   split at h1
   ·rename_i n' e hT
    simp only [Bool.and_eq_true,beq_iff_eq] at h1
    obtain ⟨⟨rfl,h4⟩,h5⟩ := h1
    exact .of hr (by simp only [execOp,hy]) (q_aidx hT (gY h4) (aM h5) (he.arg h2) (he.arg h3) hv)
   ·cases h1
  ·cases hc
 | fld off sz ag x =>
  simp only [chkQ] at hc
  split at hc
  ·rename_i T x' k hy
   simp only [Bool.and_eq_true] at hc
   obtain ⟨h1,h2⟩ := hc
   split at h1
   ·rename_i f hf
    obtain ⟨fs,hT,hf⟩ := lJ hf
    simp only [Bool.and_eq_true,beq_iff_eq] at h1
    obtain ⟨⟨ho,h4⟩,h5⟩ := h1
    exact .of hr (by simp only [execOp,hy]) (q_fld hT hf ho (gY h4) (aM h5) (he.arg h2) hv)
   ·cases h1
  ·cases hc
 | faddr off x =>
  simp only [chkQ] at hc
  split at hc
  ·rename_i T x' k hy
   simp only [Bool.and_eq_true] at hc
   obtain ⟨h1,h2⟩ := hc
   split at h1
   ·rename_i f hf
    obtain ⟨fs,hT,hf⟩ := lJ hf
    simp only [Bool.and_eq_true,beq_iff_eq] at h1
    exact .of hr (by simp only [execOp,hy]) (q_faddr hT hf h1.1 h1.2 (he.arg h2) hv)
   ·cases h1
  ·cases hc
 | iaddr sz x i =>
  simp only [chkQ] at hc
  split at hc
  ·rename_i T x' i' hy
   simp only [Bool.and_eq_true,decide_eq_true_eq] at hc
   obtain ⟨⟨⟨h1,h0⟩,h2⟩,h3⟩ := hc
   split at h1
   ·rename_i e hT
    exact .of hr (by simp only [execOp,hy]) (q_iaddr h0 hr hT (aM h1) (he.arg h2) (he.arg h3) hv)
   ·cases h1
  ·cases hc
 | iaddrA sz n x i =>
  simp only [chkQ] at hc
  split at hc
  ·rename_i T x' i' hy
   simp only [Bool.and_eq_true] at hc
   obtain ⟨⟨h1,h2⟩,h3⟩ := hc
   split at h1
   ·rename_i n' e hT
    simp only [Bool.and_eq_true,beq_iff_eq] at h1
    obtain ⟨rfl,h5⟩ := h1
    exact .of hr (by simp only [execOp,hy]) (q_iaddrA hT (aM h5) (he.arg h2) (he.arg h3) hv)
   ·cases h1
  ·cases hc
 | load sz ag x =>
  simp only [chkQ] at hc
  split at hc
  ·rename_i T x' hy
   simp only [Bool.and_eq_true] at hc
   exact .of hr (by simp only [execOp,hy]) (AH hr (gY hc.1.1) (aM hc.1.2) (he.arg hc.2) hv)
  ·cases hc
 | wslice sz x lo hi =>
  simp only [chkQ] at hc
  split at hc
  ·rename_i T x' lo' hi' hy
   simp only [Bool.and_eq_true] at hc
   obtain ⟨⟨⟨h1,h2⟩,h3⟩,h4⟩ := hc
   split at h1
   ·rename_i e hT
    have hex : execOp a.eval o = (do pure (.value (← Go.Instr.sliceAt T (a.eval x') (lo'.map a.eval) (hi'.map a.eval) none))) := by simp only [execOp,hy]; rfl
    exact .of hr hex (q_wslice hr hT (aM h1) (he.arg h2) (he.opt h3) (he.opt h4) hv)
   ·cases h1
  ·cases hc
 | lenk x k =>
  simp only [chkQ] at hc
  split at hc
  ·rename_i x' T hy
   simp only [Bool.and_eq_true] at hc
   obtain ⟨h1,h2⟩ := hc
   obtain ⟨cs,hx⟩ := bI (a := a) hy
   simp only [evQ] at hv
   obtain ⟨n,hn,rfl⟩ := Option.map_eq_some_iff.1 (xq hv)
   exact .of hr (r := Go.Builtin.len_ #[T] o.type #[a.eval x']) (by rw [hx]; rfl) ⟨_,q_len (t0 := o.type) (s := false) hr (by simpa using h1) (he.arg h2) hn,.p _ _ (.int _ _)⟩
  ·cases hc
 | loadk sz ag x k =>
  simp only [chkQ] at hc
  split at hc
  ·rename_i T x' hy
   simp only [Bool.and_eq_true] at hc
   exact .of hr (by simp only [execOp,hy]) (AH hr (gY hc.1.1) (aM hc.1.2) (he.arg hc.2) (uE hv))
  ·cases hc
 | sliceS x lo hi =>
  simp only [chkQ] at hc
  split at hc
  ·rename_i T x' lo' hi' hy
   simp only [Bool.and_eq_true] at hc
   obtain ⟨⟨⟨h1,h2⟩,h3⟩,h4⟩ := hc
   exact .of hr (by simp only [execOp,hy]; rfl) (q_sliceS h1 (he.arg h2) (he.opt h3) (he.opt h4) hv)
  ·cases hc
 | slice sz x lo hi =>
  simp only [chkQ] at hc
  split at hc
  ·rename_i T x' lo' hi' hy
   simp only [Bool.and_eq_true] at hc
   obtain ⟨⟨⟨h1,h2⟩,h3⟩,h4⟩ := hc
   split at h1
   ·rename_i e hT
    exact .of hr (by simp only [execOp,hy]; rfl) (tX hT (aM h1) (he.arg h2) (he.opt h3) (he.opt h4) hv)
   ·cases h1
  ·cases hc
 | build zero parts =>
  simp only [chkQ] at hc
  split at hc
  ·rename_i T ps hy
   simp only [Bool.and_eq_true] at hc
   obtain ⟨⟨h1,h2⟩,h3⟩ := hc
   simp only [evQ,Option.map_eq_some_iff] at hv
   obtain ⟨res,hv,rfl⟩ := hv
   refine .of hr (r := Go.Instr.build T (ps.toList.map fun x => (x.1,a.eval x.2)).toArray) ?_ (q_build h1 h2 (he.parts h3) hv)
   simp only [execOp,hy]
   have : (ps.toList.map fun x => (x.1,a.eval x.2)).toArray = ps.map fun x => (x.1,a.eval x.2) := by rw [← Array.toList_map]
   rw [this]
  ·cases hc
 | bslice sz ag n zero parts =>
  simp only [chkQ] at hc
  split at hc
  ·rename_i T n' ps hy
   simp only [Bool.and_eq_true,decide_eq_true_eq,beq_iff_eq,Bool.or_eq_true] at hc
   obtain ⟨⟨⟨⟨⟨h1,rfl⟩,h0⟩,hag⟩,hn⟩,h3⟩ := hc
   split at h1
   ·rename_i e hT
    simp only [Bool.and_eq_true] at h1
    have hag' : ag = false → sz = 1 := fun e => by
     rcases hag with h | h
     ·rw [h] at e; cases e
     ·exact h
    obtain ⟨us,h4,h5⟩ := q_bslice (N := N) (μ := μ) (H := H) (parts := ps.toList.map fun x => (x.1,a.eval x.2)) hr.lt hT (aM h1.1) h0 hag' (by omega) h1.2
     (by
      have := he.parts h3
      refine this.imp fun x y hxy => ⟨?_,hxy.2⟩
      simpa using hxy.1) hv
    refine ⟨_,_,_,?_,.grow hr (Grows.alloc w _) (fun g h => .inl h) (fun g h => ?_) (fun g h => ?_),h5⟩
    ·have e1 : (ps.toList.map fun x => (x.1,a.eval x.2)).toArray = ps.map fun x => (x.1,a.eval x.2) := by rw [← Array.toList_map]
     rw [e1] at h4
     simp only [execOp,hy]
     simp [h4]
    ·rcases h with h | h
     ·exact Nat.lt_of_lt_of_le (hr.lt g h) (Grows.alloc w _).size
     ·subst h; simp
    ·rcases h with h | h
     ·exact .inl h
     ·exact .inr (by omega)
   ·cases h1
  ·cases hc
 | appq sz x y =>
  simp only [chkQ] at hc
  split at hc
  ·rename_i x' y' T T' hy
   simp only [Bool.and_eq_true,decide_eq_true_eq,beq_iff_eq] at hc
   obtain ⟨⟨⟨⟨rfl,h1⟩,h0⟩,h2⟩,h3⟩ := hc
   split at h1
   ·rename_i e hT
    obtain ⟨i,z,hi,hsz,hb,hz,hzs⟩ := ir h1
    obtain ⟨cs,hx⟩ := bI (a := a) hy
    obtain ⟨u,w',S',h4,h5,h6⟩ := q_appq (ty := o.type) hr (bn hT) hi hz hsz hzs h0 hb (he.arg h2) (he.arg h3) hv
    refine ⟨u,w',S',?_,h5,h6⟩
    have e : execOp a.eval o = (do pure (.value (← Builtin.append_ #[T',T'] o.type #[a.eval x',a.eval y']))) := by rw [hx]; rfl
    simp [e,h4]
   ·cases h1
  ·cases hc
 | mget kd zero comma x k =>
  simp only [chkQ] at hc
  split at hc
  ·rename_i T x' k' c hy
   simp only [Bool.and_eq_true,beq_iff_eq] at hc
   obtain ⟨⟨⟨h1,rfl⟩,h2⟩,h3⟩ := hc
   split at h1
   ·rename_i kt e hT
    simp only [Bool.and_eq_true] at h1
    obtain ⟨h1,h4⟩ := h1
    split at h1
    ·rename_i d hd
     obtain ⟨z,hz,hzr⟩ := xE (N := N) (w := w) (S := S) (μ := μ) (H := H) h4
     exact .of hr (by simp only [execOp,hy]) (q_mget hr hT (by rw [hd,ox h1]) hz hzr (he.arg h2) (he.arg h3) hv)
    ·cases h1
   ·cases h1
  ·cases hc
 | mlen x =>
  simp only [chkQ] at hc
  split at hc
  ·rename_i x' T hy
   simp only [Bool.and_eq_true] at hc
   obtain ⟨⟨kt,e⟩,hT⟩ := Option.isSome_iff_exists.1 hc.1
   obtain ⟨cs,hx⟩ := bI (a := a) hy
   refine .of hr (r := Builtin.len_ #[T] o.type #[a.eval x']) ?_ (q_mlen hr hT (he.arg hc.2) hv)
   rw [hx]; rfl
  ·cases hc
 | isnil neg x y =>
  simp only [chkQ] at hc
  split at hc
  ·rename_i op T x' y' T' hy
   simp only [Bool.and_eq_true,decide_eq_true_eq] at hc
   obtain ⟨⟨⟨h0,h1⟩,h2⟩,h3⟩ := hc
   obtain ⟨e,hT⟩ := Option.isSome_iff_exists.1 h1
   exact .of hr (by simp only [execOp,hy]) (q_isnil hr h0 hT (he.arg h2) (he.arg h3) hv)
  ·cases hc
 | ext x i =>
  simp only [chkQ] at hc
  split at hc
  ·rename_i x' i' hy
   simp only [Bool.and_eq_true,beq_iff_eq] at hc
   obtain ⟨rfl,h2⟩ := hc
   exact .of hr (by simp only [execOp,hy]) (q_ext (he.arg h2) hv)
  ·cases hc
 | minmax mx xs =>
  simp only [chkQ] at hc
  split at hc
  ·rename_i b xs' Ts hy
   simp only [Bool.and_eq_true,decide_eq_true_eq] at hc
   obtain ⟨rfl,h2⟩ := hc
   obtain ⟨cs,hx⟩ := bI (a := a) hy
   have := q_minmax (P := P) (mx := mx) (t0 := o.type) (ts := Ts.toArray) (he.args h2) hv
   refine .of hr (r := if mx then Go.Builtin.max_ Ts.toArray o.type (xs'.map a.eval).toArray else Go.Builtin.min_ Ts.toArray o.type (xs'.map a.eval).toArray) ?_ this
   rw [hx]
   cases mx <;> rfl
  ·cases hc
 | clos f caps =>
  simp only [chkQ] at hc
  split at hc
  ·rename_i f' first caps' hy
   simp only [Bool.and_eq_true,beq_iff_eq,List.isEmpty_iff] at hc
   obtain ⟨⟨rfl,h1⟩,h2⟩ := hc
   have hf : first = #[] := by simpa using h1
   simp only [evQ,ifB] at hv
   split at hv
   ·rename_i hall
    simp only [Option.some.injEq] at hv; subst hv
    have := q_clos (f := f) (he.args h2) (fun c hc => List.all_eq_true.1 hall c hc)
    have e1 : (caps'.toList.map a.eval).toArray = caps'.map a.eval := by rw [← Array.toList_map]
    rw [e1] at this
    refine .of hr (r := pure (.func (.func (N.fn f)) #[] (caps'.map a.eval))) ?_ ⟨_,by simp,this⟩
    simp only [execOp,hy,hf,Go.Instr.makeFunc]
    simp
   ·cases hv
  ·cases hc
 | call f args => cases hq
 | callr f args => cases hq
 | mkt sz ag zero n c =>
  simp only [chkQ] at hc
  split at hc
  ·rename_i T n' c' hy
   simp only [Bool.and_eq_true,decide_eq_true_eq,beq_iff_eq,Bool.or_eq_true] at hc
   obtain ⟨⟨⟨⟨⟨h1,h2⟩,h3⟩,hag⟩,h4⟩,h5⟩ := hc
   split at h1
   ·rename_i e hT
    simp only [Bool.and_eq_true] at h1
    obtain ⟨i,z,hi,hsz,hb,_,_⟩ := ir h1.1
    have hag' : ag = false → sz = 1 := fun e => by
     rcases hag with h | h
     ·rw [h] at e; cases e
     ·exact h
    simp only [evQ] at hv
    obtain ⟨xs,rfl,hv'⟩ := mkt_spec hv
    obtain ⟨u,w',μ',q1,q2,q3,o',m,cp,rfl,hu⟩ := qU hr hT hi hsz h1.2 h2 h3 hag' hb (he.arg h4) (he.arg h5) hv'
    have hbk : (H ++ [Blk.row false sz xs])[H.length]? = some (.row false sz xs) := by simp
    have e : u = μ' H.length := q3.own_inv (r := (sz,xs)) (by simp [rowOf])
    refine ⟨u,w.alloc o',fun g => S g ∨ g = w.heap.size,by simp [execOp,hy,q1],.grow hr (Grows.alloc w o') (fun g h => .inl h) (fun g h => ?_) (fun g h => ?_),.p _ _ ?_⟩
    ·rcases h with h | rfl
     ·have := hr.lt g h; simp; omega
     ·simp
    ·rcases h with h | rfl
     ·exact .inl h
     ·exact .inr (Nat.le_refl _)
    ·rw [e]
     refine iR q2.rel hbk (fun g h => .inl h) (fun g hg => .inr ?_)
     rw [← e,hu] at hg
     simp only [au] at hg
     split at hg
     ·cases hg
     ·simp only [Option.some.injEq] at hg; exact hg.symm
   ·cases h1
  ·cases hc
 | bad => cases hv
end
end Ab
namespace Ab
open Go (IntKind BinOp UnOp World Value Addr Obj undef maxLen Program TypeId Oper Op Operand Act Sem Next Result execOp Builtin)
def chkX (P : Program) (N : Names) (o : Oper) : XOp → Bool
 | .alloc zero => match o.op with | .alloc T => oP P T zero | _ => false
 | .box x => match o.op with | .box _ x' => ak N x' x | _ => false
 | .fbox x => match o.op with | .box _ x' => ak N x' x | _ => false
 | .store sz x v => match o.op with | .store T x' v' => fW P T sz && ak N x' x && ak N v' v | _ => false
 | .mkslice sz ag zero n c => match o.op with
  | .makeSlice T n' c' => (match slT P T with | some e => rowT P e sz && oP P e zero | none => false) && zero.length == sz && decide (0 < sz) && (ag || sz == 1) && ak N n' n && ak N c' c
  | _ => false
 | .newrow sz => match o.op with | .assign (.const (.slice none 0 0)) => decide (0 < sz) | _ => false
 | .append sz x y | .appt sz x y | .appk sz x y _ => match d6 o with
  | some (.builtin .append,[x',y'],[T,T']) => T' == T && (match slT P T with | some e => rowT P e sz | none => false) && decide (0 < sz) && ak N x' x && ak N y' y
  | _ => false
 | .slicef sz x lo hi => match o.op with | .slice T x' lo' hi' none => (match slT P T with | some e => fW P e sz | none => false) && ak N x' x && chkO N lo' lo && chkO N hi' hi | _ => false
 | .copy sz x y => match d6 o with
  | some (.builtin .copy,[x',y'],[T,_]) => sz == 1 && (match slT P T with | some e => fW P e 1 | none => false) && ak N x' x && ak N y' y
  | _ => false
 | .appendS x y => match d6 o with
  | some (.builtin .append,[x',y'],[T,T']) => (match slT P T with | some e => rowT P e 1 | none => false) && strT P T' && ak N x' x && ak N y' y
  | _ => false
 | .popf sz x hi => match o.op with | .slice T x' none (some hi') none => (match slT P T with | some e => fW P e sz | none => false) && ak N x' x && ak N hi' hi | _ => false
 | .storek sz x v _ => match o.op with | .store T x' v' => fW P T sz && ak N x' x && ak N v' v | _ => false
 | .callk f args _ => match d6 o with | some (.value f',xs',_) => ak N f' f && gq N xs' args | _ => false
 | .range x => match o.op with | .range T x' => strT P T && ak N x' x | _ => false
 | .next x => match o.op with | .next x' true => ak N x' x | _ => false
 | .pureq q => chkQ P N o q
 | .treeq q => q.plain && chkQ P N o q
 | .brow sz ag n zero parts => match o.op with
  | .buildSlice T n' ps => (match slT P T with | some e => fW P e sz && lY P e (n * sz) zero | none => false) && n' == n && decide (0 < sz) && (ag || sz == 1) && decide (n * sz ≤ 16777216) && gg N (fun i => some (i * sz,sz)) ps.toList parts
  | _ => false
 | .mkmap => match o.op with | .makeMap _ none => true | _ => false
 | .mset kd x k v => match o.op with
  | .mapUpdate T x' k' v' => (match mapT P T with | some (kt,_) => (match P.underlying kt with | some d => kdIs kd d | none => false) | none => false) && ak N x' x && ak N k' k && ak N v' v
  | _ => false
 | .msets ks x k v => match o.op with
  | .mapUpdate T x' k' v' => (match mapT P T with | some (kt,_) => eqsT P kt ks | none => false) && ak N x' x && ak N k' k && ak N v' v
  | _ => false
 | .mdel kd x k => match d6 o with
  | some (.builtin .delete,[x',k'],[T,_]) => (match mapT P T with | some (kt,_) => (match P.underlying kt with | some d => kdIs kd d | none => false) | none => false) && ak N x' x && ak N k' k
  | _ => false
 | .bytesOf x => match o.op with | .convert s d x' => strT P s && (match slT P d with | some e => BV P e .u8 | none => false) && ak N x' x | _ => false
 | .callf f args | .callz f args | .calls f args | .callw f args | .callwr f args | .callwk f args _ => match d6 o with | some (.value f',xs',_) => ak N f' f && gq N xs' args | _ => false
 | .bslicef sz ag n zero parts | .bslk sz ag n zero parts _ => match o.op with
  | .buildSlice T n' ps => (match slT P T with | some e => fW P e sz && lY P e (n * sz) zero | none => false) && n' == n && decide (0 < sz) && (ag || sz == 1) && decide (n * sz ≤ 16777216) && gg N (fun i => some (i * sz,sz)) ps.toList parts
  | _ => false
def chkOp (P : Program) (N : Names) (o : Oper) : QOp ⊕ XOp → Bool
 | .inl q => chkQ P N o q
 | .inr x => chkX P N o x
section
variable {Γ : Ctx} {N : Names} {P : Program} {w : World} {S : Nat → Prop} {μ : Nat → Value} {H : Heap} {σ : Nat → AV} {a : Act}
def Yield (r : Result Next) (u : Value) (w : World) : Prop := r = .ok (.value u) w ∨ (r = .ok .skip w ∧ u = undef)
def XDone (N : Names) (P : Program) (w : World) (S : Nat → Prop) (μ : Nat → Value) (H : Heap) (o : Oper) (a : Act) (v : AV) (H' : Heap) : Prop :=
 ∃ u w' S' μ',Yield ((execOp a.eval o).run P w) u w' ∧ Step N.fn w S μ H w' S' μ' H' ∧ RelV N.fn w' S' μ' H' v u
theorem XDone.of {o : Oper} {r : Sem Value} {v : AV} {H' : Heap} (he : execOp a.eval o = (do pure (.value (← r)))) (h : ∃ u w' μ',r.run P w = .ok u w' ∧ Step N.fn w S μ H w' S μ' H' ∧ RelV N.fn w' S μ' H' v u) : XDone N P w S μ H o a v H' := by
 obtain ⟨u,w',μ',h1,h2,h3⟩ := h
 exact ⟨u,w',S,μ',.inl (by simp [he,h1]),h2,h3⟩
def XOp.known : XOp → Bool
 | .callf _ _ | .calls _ _ | .callz _ _ | .callw _ _ | .callwr _ _ | .callwk _ _ _ | .callk _ _ _ | .appt _ _ _ | .appk _ _ _ _ | .bslk _ _ _ _ _ _ | .bslicef _ _ _ _ _ | .fbox _ | .pureq _ | .treeq _ => false
 | _ => true
theorem ui {o : Oper} {x : XOp} {v : AV} {H' : Heap} {cal : Nat → List AV → Heap → Option (List AV × Heap)} (hq : x.known = true) (hc : chkX P N o x = true) (he : Env.Rel Γ N w S μ H σ a) (hr : Rel N.fn w S μ H)
  (hv : evX Γ cal σ H x = some (v,H')) : XDone N P w S μ H o a v H' := by
 cases x with
 | alloc zero =>
  simp only [chkX] at hc
  simp only [evX,Option.some.injEq,Prod.mk.injEq] at hv
  obtain ⟨rfl,rfl⟩ := hv
  split at hc
  ·rename_i T hy; exact .of (by simp only [execOp,hy]) (x_alloc hr hc)
  ·cases hc
 | box x =>
  simp only [chkX] at hc
  split at hc
  ·rename_i T x' hy; exact .of (r := Go.Instr.box T (a.eval x')) (by simp only [execOp,hy]) (x_box hr (he.arg hc) hv)
  ·cases hc
 | store sz x y =>
  simp only [chkX] at hc
  simp only [evX,Option.map_eq_some_iff,Prod.mk.injEq] at hv
  obtain ⟨H1,hv,rfl,rfl⟩ := hv
  split at hc
  ·rename_i T x' y' hy
   simp only [Bool.and_eq_true] at hc
   obtain ⟨w',μ',h1,h2⟩ := yS hr (aM hc.1.1) (he.arg hc.1.2) (he.arg hc.2) hv
   exact ⟨undef,w',S,μ',.inr ⟨by simp [execOp,hy,h1],rfl⟩,h2,.nov⟩
  ·cases hc
 | mkslice sz ag zero n c =>
  simp only [chkX] at hc
  split at hc
  ·rename_i T n' c' hy
   simp only [Bool.and_eq_true,decide_eq_true_eq,beq_iff_eq,Bool.or_eq_true] at hc
   obtain ⟨⟨⟨⟨⟨h1,h2⟩,h3⟩,hag⟩,h4⟩,h5⟩ := hc
   split at h1
   ·rename_i e hT
    simp only [Bool.and_eq_true] at h1
    obtain ⟨i,z,hi,hsz,hb,_,_⟩ := ir h1.1
    have hag' : ag = false → sz = 1 := fun e => by
     rcases hag with h | h
     ·rw [h] at e; cases e
     ·exact h
    obtain ⟨u,w',μ',q1,q2,q3,_⟩ := qU hr hT hi hsz h1.2 h2 h3 hag' hb (he.arg h4) (he.arg h5) hv
    exact .of (by simp only [execOp,hy]) ⟨u,w',μ',q1,q2,q3⟩
   ·cases h1
  ·cases hc
 | brow sz ag n zero parts =>
  simp only [chkX] at hc
  split at hc
  ·rename_i T n' ps hy
   simp only [Bool.and_eq_true,decide_eq_true_eq,beq_iff_eq,Bool.or_eq_true] at hc
   obtain ⟨⟨⟨⟨⟨h1,rfl⟩,h0⟩,hag⟩,hn⟩,h3⟩ := hc
   split at h1
   ·rename_i e hT
    simp only [Bool.and_eq_true] at h1
    have hag' : ag = false → sz = 1 := fun e => by
     rcases hag with h | h
     ·rw [h] at e; cases e
     ·exact h
    obtain ⟨u,w',μ',h4,h5,h6⟩ := x_brow (N := N) (μ := μ) (H := H) (parts := ps.toList.map fun x => (x.1,a.eval x.2)) hr hT (aM h1.1) h0 hag' (by omega) h1.2
     (by
      have := he.parts h3
      refine this.imp fun x y hxy => ⟨?_,hxy.2⟩
      simpa using hxy.1) hv
    refine ⟨u,w',S,μ',.inl ?_,h5,h6⟩
    have e1 : (ps.toList.map fun x => (x.1,a.eval x.2)).toArray = ps.map fun x => (x.1,a.eval x.2) := by rw [← Array.toList_map]
    rw [e1] at h4
    simp only [execOp,hy]
    simp [h4]
   ·cases h1
  ·cases hc
 | mkmap =>
  simp only [chkX] at hc
  simp only [evX,Option.some.injEq,Prod.mk.injEq] at hv
  obtain ⟨rfl,rfl⟩ := hv
  split at hc
  ·rename_i T hy
   exact .of (by simp only [execOp,hy]; rfl) (x_mkmap (T := T) hr)
  ·cases hc
 | mset kd x k v =>
  simp only [chkX] at hc
  simp only [evX,Option.map_eq_some_iff,Prod.mk.injEq] at hv
  obtain ⟨H1,hv,rfl,rfl⟩ := hv
  split at hc
  ·rename_i T x' k' v' hy
   simp only [Bool.and_eq_true] at hc
   obtain ⟨⟨⟨h1,h2⟩,h3⟩,h4⟩ := hc
   split at h1
   ·rename_i kt e hT
    split at h1
    ·rename_i d hd
     obtain ⟨w',μ',h5,h6⟩ := x_mset hr hT (by rw [hd,ox h1]) (he.arg h2) (he.arg h3) (he.arg h4) hv
     refine ⟨undef,w',S,μ',.inr ⟨?_,rfl⟩,h6,.nov⟩
     simp only [execOp,hy]
     simp [h5]
    ·cases h1
   ·cases h1
  ·cases hc
 | msets ks x k v =>
  simp only [chkX] at hc
  simp only [evX,Option.map_eq_some_iff,Prod.mk.injEq] at hv
  obtain ⟨H1,hv,rfl,rfl⟩ := hv
  split at hc
  ·rename_i T x' k' v' hy
   simp only [Bool.and_eq_true] at hc
   obtain ⟨⟨⟨h1,h2⟩,h3⟩,h4⟩ := hc
   split at h1
   ·rename_i kt e hT
    obtain ⟨w',μ',h5,h6⟩ := x_msets hr hT h1 (he.arg h2) (he.arg h3) (he.arg h4) hv
    refine ⟨undef,w',S,μ',.inr ⟨?_,rfl⟩,h6,.nov⟩
    simp only [execOp,hy]
    simp [h5]
   ·cases h1
  ·cases hc
 | mdel kd x k =>
  simp only [chkX] at hc
  simp only [evX,Option.map_eq_some_iff,Prod.mk.injEq] at hv
  obtain ⟨H1,hv,rfl,rfl⟩ := hv
  split at hc
  ·rename_i x' k' T T' hy
   simp only [Bool.and_eq_true] at hc
   obtain ⟨⟨h1,h2⟩,h3⟩ := hc
   split at h1
   ·rename_i kt e hT
    split at h1
    ·rename_i d hd
     obtain ⟨w',μ',h5,h6⟩ := x_mdel (ts := #[T,T']) (t0 := o.type) hr hT (by rw [hd,ox h1]) (he.arg h2) (he.arg h3) rfl hv
     obtain ⟨cs,hx⟩ := bI (a := a) hy
     refine ⟨.tuple #[],w',S,μ',.inl ?_,h6,.any _⟩
     have e1 : execOp a.eval o = (do pure (.value (← Builtin.delete_ #[T,T'] o.type #[a.eval x',a.eval k']))) := by rw [hx]; rfl
     simp [e1,h5]
    ·cases h1
   ·cases h1
  ·cases hc
 | newrow sz =>
  simp only [chkX] at hc
  simp only [evX,Option.some.injEq,Prod.mk.injEq] at hv
  obtain ⟨rfl,rfl⟩ := hv
  split at hc
  ·rename_i hy
   obtain ⟨μ',h1,h2⟩ := x_newrow hr (of_decide_eq_true hc)
   exact ⟨_,w,S,μ',.inl (by simp [execOp,hy]; rfl),h1,h2⟩
  ·cases hc
 | append sz x y =>
  simp only [chkX] at hc
  split at hc
  ·rename_i x' y' T T' hy
   simp only [Bool.and_eq_true,decide_eq_true_eq,beq_iff_eq] at hc
   obtain ⟨⟨⟨⟨rfl,h1⟩,h0⟩,h2⟩,h3⟩ := hc
   split at h1
   ·rename_i e hT
    obtain ⟨i,z,hi,hsz,hb,hz,hzs⟩ := ir h1
    obtain ⟨cs,hx⟩ := bI (a := a) hy
    simp only [evX,Option.bind_eq_some_iff] at hv
    obtain ⟨ys,hys,hv⟩ := hv
    obtain ⟨news,h4,h5⟩ := kC hr h0 (he.arg h3) hys
    obtain ⟨v',w',μ',h6⟩ := zK (ty := o.type) hr (bn hT) hi hz hsz hzs h0 hb (he.arg h2) h4 h5 hv
    refine .of (r := Builtin.append_ #[T',T'] o.type #[a.eval x',a.eval y']) (by rw [hx]; rfl) ⟨v',w',μ',h6⟩
   ·cases h1
  ·cases hc
 | range x =>
  simp only [chkX] at hc
  split at hc
  ·rename_i T x' hy
   simp only [Bool.and_eq_true] at hc
   exact .of (by simp only [execOp,hy]) (x_range hr hc.1 (he.arg hc.2) hv)
  ·cases hc
 | next x =>
  simp only [chkX] at hc
  split at hc
  ·rename_i x' hy
   exact .of (r := Go.Instr.next (a.eval x') true o.type) (by simp only [execOp,hy]) (x_next hr (he.arg hc) hv)
  ·cases hc
 | appendS x y =>
  simp only [chkX] at hc
  split at hc
  ·rename_i x' y' T T' hy
   simp only [Bool.and_eq_true] at hc
   obtain ⟨⟨⟨h1,h0⟩,h2⟩,h3⟩ := hc
   split at h1
   ·rename_i e hT
    obtain ⟨i,z,hi,hsz,hb,hz,hzs⟩ := ir h1
    obtain ⟨cs,hx⟩ := bI (a := a) hy
    obtain ⟨v',w',μ',h6⟩ := zU (ty := o.type) hr (bn hT) (cP h0) hi hz hsz hzs hb (he.arg h2) (he.arg h3) hv
    refine .of (r := Builtin.append_ #[T,T'] o.type #[a.eval x',a.eval y']) (by rw [hx]; rfl) ⟨v',w',μ',h6⟩
   ·cases h1
  ·cases hc
 | copy sz x y =>
  simp only [chkX] at hc
  split at hc
  ·rename_i x' y' T T' hy
   simp only [Bool.and_eq_true,beq_iff_eq] at hc
   obtain ⟨⟨⟨rfl,h1⟩,h2⟩,h3⟩ := hc
   split at h1
   ·rename_i e hT
    obtain ⟨cs,hx⟩ := bI (a := a) hy
    simp only [evX,Option.bind_eq_some_iff] at hv
    obtain ⟨ys,hys,hv⟩ := hv
    obtain ⟨v',w',μ',h6⟩ := x_copy (P := P) (T' := T') (ty := o.type) hr hT (aM h1) (he.arg h2) (he.arg h3) hys hv
    refine .of (r := Builtin.copy_ #[T,T'] o.type #[a.eval x',a.eval y']) (by rw [hx]; rfl) ⟨v',w',μ',h6⟩
   ·cases h1
  ·cases hc
 | bytesOf x =>
  simp only [chkX] at hc
  split at hc
  ·rename_i s d x' hy
   simp only [Bool.and_eq_true] at hc
   obtain ⟨⟨h1,h2⟩,h3⟩ := hc
   split at h2
   ·rename_i e hT
    exact .of (by simp only [execOp,hy]) (Ar hr h1 hT (g9 (lA h2)) (he.arg h3) hv)
   ·cases h2
  ·cases hc
 | slicef sz x lo hi =>
  simp only [chkX] at hc
  split at hc
  ·rename_i T x' lo' hi' hy
   simp only [Bool.and_eq_true] at hc
   obtain ⟨⟨⟨h1,h2⟩,h3⟩,h4⟩ := hc
   split at h1
   ·rename_i e hT
    obtain ⟨u,w',S',μ',g1,g2,g3⟩ := x_slicef hr hT (aM h1) (he.arg h2) (he.opt h3) (he.opt h4) hv
    have hex : execOp a.eval o = (do pure (.value (← Go.Instr.sliceAt T (a.eval x') (lo'.map a.eval) (hi'.map a.eval) none))) := by simp only [execOp,hy]; rfl
    exact ⟨u,w',S',μ',.inl (by simp [hex,g1]),g2,g3⟩
   ·cases h1
  ·cases hc
 | popf sz x hi =>
  simp only [chkX] at hc
  split at hc
  ·rename_i T x' hi' hy
   simp only [Bool.and_eq_true] at hc
   obtain ⟨⟨h1,h2⟩,h3⟩ := hc
   split at h1
   ·rename_i e hT
    obtain ⟨u,w',S',μ',g1,g2,g3⟩ := x_pop hr hT (aM h1) (he.arg h2) (he.arg h3) hv
    have hex : execOp a.eval o = (do pure (.value (← Go.Instr.sliceAt T (a.eval x') none (some (a.eval hi')) none))) := by simp only [execOp,hy]; rfl
    exact ⟨u,w',S',μ',.inl (by simp [hex,g1]),g2,g3⟩
   ·cases h1
  ·cases hc
 | storek sz x y ks =>
  simp only [chkX] at hc
  simp only [evX,nS,Option.map_eq_some_iff,ifB_some,Prod.mk.injEq] at hv
  obtain ⟨H1,⟨_,hv⟩,rfl,rfl⟩ := hv
  split at hc
  ·rename_i T x' y' hy
   simp only [Bool.and_eq_true] at hc
   obtain ⟨w',μ',h1,h2⟩ := yS hr (aM hc.1.1) (he.arg hc.1.2) (he.arg hc.2) hv
   exact ⟨undef,w',S,μ',.inr ⟨by simp [execOp,hy,h1],rfl⟩,h2,.nov⟩
  ·cases hc
 | callk f args ks => cases hq
 | callw f args => cases hq
 | callwk f args ks => cases hq
 | callwr f args => cases hq
 | appt sz x y => cases hq
 | appk sz x y ks => cases hq
 | bslk sz ag n zero parts ks => cases hq
 | callf f args => cases hq
 | calls f args => cases hq
 | callz f args => cases hq
 | pureq q => cases hq
 | treeq q => cases hq
 | bslicef sz ag n zero parts => cases hq
 | fbox x => cases hq
end
end Ab
namespace Ab
open Go (IntKind BinOp UnOp World Value Addr Obj undef maxLen Program TypeId Oper Op Operand Act Sem Next Result execOp Builtin Calls Ending Exit)
def dw : List Value → Value
 | [v] => v
 | vs => .tuple vs.toArray
def Enters (P : Program) (f : Nat) : Prop := ∀ us w,(Go.callFunc f us).run P w = .ok (.enter f us) w
def Does (P : Program) (f : Nat) (us : Array Value) (w : World) (R : Value → World → Prop) : Prop :=
 ((Go.callFunc f us).run P w = .ok (.enter f us) w ∧ Calls P f us w fun e w' => ∃ v,e = .returned v ∧ R v w') ∨ ∃ v w',(Go.callFunc f us).run P w = .ok (.value v) w' ∧ R v w'
theorem Does.mono {P : Program} {f : Nat} {us : Array Value} {w : World} {R R' : Value → World → Prop} (h : Does P f us w R) (hr : ∀ v w',R v w' → R' v w') : Does P f us w R' := by
 rcases h with ⟨h1,h2⟩ | ⟨v,w',h1,h2⟩
 ·exact .inl ⟨h1,h2.mono fun e w' ⟨v,e1,e2⟩ => ⟨v,e1,hr v w' e2⟩⟩
 ·exact .inr ⟨v,w',h1,hr v w' h2⟩
structure Run (ν : Nat → Nat) (w : World) (S : Nat → Prop) (μ : Nat → Value) (H : Heap) (w' : World) (S' : Nat → Prop) (μ' : Nat → Value) (H' : Heap) : Prop where
 rel : Rel ν w' S' μ' H'
 ext : Ext w S μ H w' S' μ' H'
theorem Step.run {ν w S μ H w' S' μ' H'} (h : Step ν w S μ H w' S' μ' H') : Run ν w S μ H w' S' μ' H' := ⟨h.rel,h.ext⟩
theorem Run.trans {ν w S μ H w1 S1 μ1 H1 w2 S2 μ2 H2} (a : Run ν w S μ H w1 S1 μ1 H1) (b : Run ν w1 S1 μ1 H1 w2 S2 μ2 H2) : Run ν w S μ H w2 S2 μ2 H2 := ⟨b.rel,a.ext.trans b.ext⟩
theorem Run.refl {ν w S μ H} (h : Rel ν w S μ H) : Run ν w S μ H w S μ H := ⟨h,Ext.refl⟩
def dq (Γ : Ctx) (N : Names) (P : Program) (cal : Nat → List AV → Heap → Option (List AV × Heap)) : Prop :=
 ∀ f args H rs H',cal f args H = some (rs,H') → ∀ w S μ us,Rel N.fn w S μ H → GlRel Γ N w S → All2 (fun u x => RelV N.fn w S μ H x u) us args →
  Does P (N.fn f) us.toArray w (fun v w' => ∃ vs S' μ',v = dw vs ∧ Run N.fn w S μ H w' S' μ' H' ∧ (jW Γ H.length f = true → Moves μ H μ' H') ∧ All2 (fun u x => RelV N.fn w' S' μ' H' x u) vs rs)
section
variable {Γ : Ctx} {N : Names} {P : Program} {w : World} {S T : Nat → Prop} {μ : Nat → Value} {H : Heap} {σ : Nat → AV} {a : Act}
 {cal : Nat → List AV → Heap → Option (List AV × Heap)}
theorem A5 (hT : ∀ g,T g → g < w.heap.size) : Rel N.fn w T (fun _ => undef) [] where
 lt := hT
 blk := by simp
 apart g h := by obtain ⟨id,h1,h2⟩ := h; simp at h2
 inj := by intro i j g h1 h2 h3; simp at h3
theorem All2.map_right {α β γ : Type} {R : α → γ → Prop} {f : β → γ} : ∀ {xs : List α} {ys : List β},All2 (fun x y => R x (f y)) xs ys → All2 R xs (ys.map f)
 | [],[],_ => trivial
 | _ :: _,_ :: _,h => ⟨h.1,h.2.map_right⟩
 | [],_ :: _,h => by cases h
 | _ :: _,[],h => by cases h
theorem All2.append {α β : Type} {R : α → β → Prop} : ∀ {xs xs' : List α} {ys ys' : List β},All2 R xs ys → All2 R xs' ys' → All2 R (xs ++ xs') (ys ++ ys')
 | [],_,[],_,_,h => h
 | _ :: _,_,_ :: _,_,h,h' => ⟨h.1,h.2.append h'⟩
 | [],_,_ :: _,_,h,_ => by cases h
 | _ :: _,_,[],_,h,_ => by cases h
theorem All2.of_get {α β : Type} {R : α → β → Prop} : ∀ {xs : List α} {ys : List β},xs.length = ys.length → (∀ (j : Nat) x y,xs[j]? = some x → ys[j]? = some y → R x y) → All2 R xs ys
 | [],[],_,_ => trivial
 | x :: xs,y :: ys,h,h' => ⟨h' 0 x y rfl rfl,All2.of_get (by simpa using h) fun j a b ha hb => h' (j + 1) a b (by simpa using ha) (by simpa using hb)⟩
 | [],_ :: _,h,_ => by cases h
 | _ :: _,[],h,_ => by cases h
theorem All2.get {α β : Type} {R : α → β → Prop} : ∀ {xs : List α} {ys : List β},All2 R xs ys → xs.length = ys.length ∧ ∀ (j : Nat) x y,xs[j]? = some x → ys[j]? = some y → R x y
 | [],[],_ => ⟨rfl,by simp⟩
 | x :: xs,y :: ys,h => by
  obtain ⟨h1,h2⟩ := h.2.get
  refine ⟨by simp [h1],fun j a b ha hb => ?_⟩
  cases j with
  | zero => simp only [List.getElem?_cons_zero,Option.some.injEq] at ha hb; subst ha hb; exact h.1
  | succ j => exact h2 j a b (by simpa using ha) (by simpa using hb)
 | [],_ :: _,h => by cases h
 | _ :: _,[],h => by cases h
theorem d5 {d : Nat} {R : Value → PV → Prop} : ∀ {vs : List AV} {us : List Value} {ps : List PV},All2 (fun u x => RelV N.fn w S μ H x u) us vs → mapO (aq H d) vs = some ps →
  (∀ v ∈ vs,∀ u p,RelV N.fn w S μ H v u → aq H d v = some p → R u p) → All2 R us ps
 | [],[],ps,_,h,_ => by simp only [mapO,Option.some.injEq] at h; subst h; trivial
 | v :: vs,u :: us,ps,ha,h,hR => by
  simp only [mapO] at h
  split at h
  ·rename_i p hp
   split at h
   ·rename_i qs hqs
    simp only [Option.some.injEq] at h; subst h
    exact ⟨hR v (by simp) u p ha.1 hp,d5 ha.2 hqs fun x hx => hR x (by simp [hx])⟩
   ·cases h
  ·cases h
 | [],_ :: _,_,h,_,_ => by cases h
 | _ :: _,[],_,h,_,_ => by cases h
theorem fT (hcal : dq Γ N P cal) (hT : ∀ g,T g → g < w.heap.size) (hgl : GlRel Γ N w T) {f : Nat} {ps rs : List PV} {us : List Value} {r : List AV × Heap}
  (ha : All2 (fun u p => RelP N.fn w T p u) us ps) (hc : cal f (ps.map .p) [] = some r) (hrs : mapO (aq r.2 4) r.1 = some rs) :
  Does P (N.fn f) us.toArray w (fun v w' => ∃ vs,v = dw vs ∧ Grows w w' ∧
   All2 (fun u p => RelP N.fn w' (fun g => T g ∨ (w.heap.size ≤ g ∧ g < w'.heap.size)) p u) vs rs) := by
 refine (hcal f _ _ r.1 r.2 hc w T (fun _ => undef) us (A5 hT) hgl (All2.map_right (ha.imp fun u p h => .p _ _ h))).mono ?_
 rintro e w' ⟨vs,S',μ',rfl,hs,_,hv⟩
 have no : ∀ g,¬ alive (fun _ => undef) [] g := fun g h => by obtain ⟨id,h1,h2⟩ := h; simp at h2
 have hS' : ∀ g,S' g → T g ∨ (w.heap.size ≤ g ∧ g < w'.heap.size) := fun g h => by
  by_cases hg : g < w.heap.size
  ·rcases hs.ext.new g h hg with h | h
   ·exact .inl h
   ·exact absurd h (no g)
  ·exact .inr ⟨by omega,hs.rel.lt g h⟩
 refine ⟨vs,rfl,⟨hs.ext.os,hs.ext.tape,hs.ext.output,hs.ext.size,fun g hg => hs.ext.keep g hg (no g)⟩,?_⟩
 refine d5 hv hrs fun v _ u p hvu hp => ku hs.rel hS' (fun id b g hb hg => ?_) 4 hvu hp
 by_cases hl : g < w.heap.size
 ·have : S' g := by
   have hbr := hs.rel.blk id b hb
   cases b with
   | box cs => exact absurd (hs.ext.own g ⟨id,hg,.inl ⟨cs,hb⟩⟩ hl) (no g)
   | row f sz xs =>
    cases f with
    | true => obtain ⟨_,_,us,_,_,_,h4⟩ := hbr; exact h4 rfl g hg
    | false => exact absurd (hs.ext.own g ⟨id,hg,.inr ⟨sz,xs,hb⟩⟩ hl) (no g)
   | dead => exact hbr g hg
  exact hS' g this
 ·exact .inr ⟨by omega,hs.rel.blk_lt hb hg⟩
theorem cY {S' : Nat → Prop} {μ' : Nat → Value} {H' : Heap} : ∀ {vs : List Value} {rs : List AV},All2 (fun u x => RelV N.fn w S' μ' H' x u) vs rs → RelV N.fn w S' μ' H' (results rs) (dw vs)
 | [v],[r],h => h.1
 | [],[],_ => .tup [] #[] rfl (by simp)
 | v :: v' :: vs,r :: r' :: rs,h => by
  have := h.get
  refine .tup _ _ (by simpa using this.1) fun j c hc => ?_
  obtain ⟨h1,h2⟩ := this
  have hl : j < (v :: v' :: vs).length := by rw [h1]; exact (List.getElem?_eq_some_iff.1 hc).1
  have := h2 j _ c (List.getElem?_eq_getElem hl) hc
  simpa [Array.getD_eq_getD_getElem?,List.getElem?_eq_getElem hl] using this
 | [],_ :: _,h => by cases h
 | _ :: _,[],h => by cases h
 | [_],_ :: _ :: _,h => by cases h.2
 | _ :: _ :: _,[_],h => by cases h.2
theorem eC {fv : AV} {u : Value} {fc : Nat × List AV} (h : RelV N.fn w S μ H fv u) (hc : callee fv = some fc) :
  ∃ us : Array Value,u = .func (.func (N.fn fc.1)) #[] us ∧ All2 (fun u x => RelV N.fn w S μ H x u) us.toList fc.2 := by
 unfold callee at hc
 split at hc
 ·rename_i f cs
  simp only [Option.some.injEq] at hc; subst hc
  cases h with
  | p _ _ h =>
   cases h with
   | clo _ _ us h1 h2 h3 =>
    refine ⟨us,rfl,All2.map_right (.of_get (by simpa using h1) fun j x y hx hy => .p _ _ ?_)⟩
    have := h3 j y hy
    rwa [dQ,List.getD_eq_getElem?_getD,hx] at this
 ·rename_i f cs
  simp only [Option.some.injEq] at hc; subst hc
  cases h with
  | clo _ _ us h1 h2 h3 =>
   refine ⟨us,rfl,.of_get (by simpa using h1) fun j x y hx hy => ?_⟩
   have := h3 j y hy
   rwa [dQ,List.getD_eq_getElem?_getD,hx] at this
 ·cases hc
theorem eW {o : Oper} {f' : Operand} {xs : List Operand} {Ts : List TypeId} {g : Nat} {us : Array Value} (h : d6 o = some (.value f',xs,Ts)) (hf : a.eval f' = .func (.func g) #[] us) :
  (execOp a.eval o).run P w = (Go.callFunc g (xs.map a.eval ++ us.toList).toArray).run P w := by
 unfold d6 at h
 split at h
 ·rename_i c hc
  simp only [Option.some.injEq,Prod.mk.injEq] at h
  obtain ⟨h1,h2,h3⟩ := h
  have e2 : c.args.map a.eval = (xs.map a.eval).toArray := by rw [← h2,← Array.toList_map]
  have e3 : ((xs.map a.eval).toArray ++ us) = (xs.map a.eval ++ us.toList).toArray := by simp
  simp only [execOp,hc,Go.resolve,h1,Go.Deferred.ofValue,hf,Go.Sem.run_bind,Go.Sem.run_pure,Go.Result.andThen_ok,Go.invoke,e2,Array.empty_append,e3]
 ·cases h
def ux (N : Names) (P : Program) (w : World) (S : Nat → Prop) (μ : Nat → Value) (H : Heap) (o : Oper) (a : Act) (v : AV) (H' : Heap) : Prop :=
 ∃ f us,(execOp a.eval o).run P w = (Go.callFunc f us).run P w ∧ Does P f us w fun u w' => ∃ S' μ',Step N.fn w S μ H w' S' μ' H' ∧ RelV N.fn w' S' μ' H' v u
theorem Env.Rel.glrel (he : Env.Rel Γ N w S μ H σ a) : GlRel Γ N w S := he.gl
theorem GlRel.more (h : GlRel Γ N w S) (hT : ∀ g,S g → T g) : GlRel Γ N w T := ⟨fun n cs hn => (h.rel n cs hn).more hT,h.whole,fun n hn => ⟨hT _ (h.ints n hn).1,(h.ints n hn).2⟩⟩
theorem sh : ∀ {l : List AV},allP l = true → ∀ v ∈ l,∃ p,v = .p p
 | [],_ => by simp
 | v :: l,h => by
  cases v <;> simp only [allP,Bool.false_eq_true] at h
  rename_i p
  intro x hx
  rcases List.mem_cons.1 hx with rfl | hx
  ·exact ⟨p,rfl⟩
  ·exact sh h x hx
theorem vK {fv : AV} {fc : Nat × List AV} (hp : fv.isP = true) (hc : callee fv = some fc) : ∀ v ∈ fc.2,∃ p,v = .p p := by
 unfold callee at hc
 split at hc
 ·simp only [Option.some.injEq] at hc; subst hc
  intro v hv
  obtain ⟨x,_,rfl⟩ := List.mem_map.1 hv
  exact ⟨x,rfl⟩
 ·cases hp
 ·cases hc
theorem pk (hcal : dq Γ N P cal) {o : Oper} {f : Arg} {args : List Arg} {v : AV} (hc : chkQ P N o (.call f args) = true) (he : Env.Rel Γ N w S μ H σ a) (hr : Rel N.fn w S μ H)
  (hv : evQ Γ cal σ H (.call f args) = some v) : ux N P w S μ H o a v H := by
 simp only [chkQ] at hc
 split at hc
 rotate_left
 ·cases hc
 rename_i f' xs' Ts hy
 simp only [Bool.and_eq_true] at hc
 have hf := he.arg hc.1
 have ha := he.args hc.2
 simp only [evQ,mi,Option.bind_eq_some_iff] at hv
 obtain ⟨rs,⟨fc,hfc,ps,hps,r,hcr,hrs⟩,hv⟩ := hv
 simp only [ifB] at hv
 split at hv
 rotate_left
 ·cases hv
 rename_i hB
 simp only [Option.some.injEq] at hv; subst hv
 obtain ⟨caps,hcl,hcaps⟩ := eC hf hfc
 have hall := ha.append hcaps
 by_cases hA : (allP (args.map (Arg.ev Γ σ)) && (f.ev Γ σ).isP) = true
 ·simp only [Bool.and_eq_true] at hA
  have hall' : All2 (fun u p => RelP N.fn w S p u) (xs'.map a.eval ++ caps.toList) ps := d5 hall hps fun v hv u p hvu hp => by
   have : ∃ q,v = .p q := by
    rcases List.mem_append.1 hv with h | h
    ·exact sh hA.1 v h
    ·exact vK hA.2 hfc v h
   obtain ⟨q,rfl⟩ := this
   simp only [aq,Option.some.injEq] at hp; subst hp
   exact hvu.p_inv
  have h2 := fT hcal hr.lt he.glrel hall' hcr hrs
  refine ⟨_,_,eW hy hcl,h2.mono ?_⟩
  rintro e w' ⟨vs,rfl,hg,hvs⟩
  refine ⟨_,μ,.grow hr hg (fun g h => .inl h) (fun g h => ?_) (fun g h => ?_),cY (All2.map_right (hvs.imp fun u p h => .p _ _ h))⟩
  ·rcases h with h | h
   ·exact Nat.lt_of_lt_of_le (hr.lt g h) hg.size
   ·exact h.2
  ·rcases h with h | h
   ·exact .inl h
   ·exact .inr h.1
 ·have hfl : rs.all flat = true := by
   rcases Bool.or_eq_true_iff.1 hB with h | h
   ·exact absurd h hA
   ·exact h
  have hall' : All2 (fun u p => RelP N.fn w (fun g => g < w.heap.size) p u) (xs'.map a.eval ++ caps.toList) ps := d5 hall hps fun v hv u p hvu hp =>
   ku hr hr.lt (fun id b g hb hg => hr.blk_lt hb hg) 4 hvu hp
  have h2 := fT hcal (fun g h => h) (he.glrel.more hr.lt) hall' hcr hrs
  refine ⟨_,_,eW hy hcl,h2.mono ?_⟩
  rintro e w' ⟨vs,rfl,hg,hvs⟩
  refine ⟨S,μ,.grow hr hg (fun g h => h) (fun g h => Nat.lt_of_lt_of_le (hr.lt g h) hg.size) (fun g h => .inl h),cY (All2.map_right ?_)⟩
  have := hvs.get
  refine .of_get this.1 fun j u p hu hp => .p _ _ (vG (List.all_eq_true.1 hfl p (List.mem_of_getElem? hp)) (this.2 j u p hu hp))
theorem nM (hcal : dq Γ N P cal) {o : Oper} {f : Arg} {args : List Arg} {v : AV} (hc : chkQ P N o (.callr f args) = true) (he : Env.Rel Γ N w S μ H σ a) (hr : Rel N.fn w S μ H)
  (hv : evQ Γ cal σ H (.callr f args) = some v) : ux N P w S μ H o a v H := by
 simp only [chkQ] at hc
 split at hc
 rotate_left
 ·cases hc
 rename_i f' xs' Ts hy
 simp only [Bool.and_eq_true] at hc
 have hf := he.arg hc.1
 have ha := he.args hc.2
 simp only [evQ,ma,Option.bind_eq_some_iff,Option.map_eq_some_iff,ifB_some] at hv
 obtain ⟨rs,⟨fc,hfc,ps,hps,r,hcr,hfr,hrs⟩,rfl⟩ := hv
 obtain ⟨caps,hcl,hcaps⟩ := eC hf hfc
 have hall := ha.append hcaps
 have hall' : All2 (fun u p => RelP N.fn w (fun g => g < w.heap.size) p u) (xs'.map a.eval ++ caps.toList) ps := d5 hall hps fun v hv u p hvu hp =>
  ku hr hr.lt (fun id b g hb hg => hr.blk_lt hb hg) 4 hvu hp
 have hlt : ∀ g,(fun g => g < w.heap.size) g → g < w.heap.size := fun g h => h
 have h2 := hcal fc.1 _ _ r.1 r.2 hcr w (fun g => g < w.heap.size) (fun _ => undef) _ (A5 hlt) (he.glrel.more hr.lt) (All2.map_right (hall'.imp fun u p h => .p _ _ h))
 refine ⟨_,_,eW hy hcl,h2.mono ?_⟩
 rintro e w' ⟨vs,S',μ',rfl,hs,_,hv⟩
 have no : ∀ g,¬ alive (fun _ => undef) [] g := fun g h => by obtain ⟨id,h1,h2⟩ := h; simp at h2
 have hg : Grows w w' := ⟨hs.ext.os,hs.ext.tape,hs.ext.output,hs.ext.size,fun g hg => hs.ext.keep g hg (no g)⟩
 refine ⟨fun g => S g ∨ (w.heap.size ≤ g ∧ g < w'.heap.size),μ,.grow hr hg (fun g h => .inl h) (fun g h => ?_) (fun g h => ?_),cY (All2.map_right ?_)⟩
 ·rcases h with h | h
  ·exact Nat.lt_of_lt_of_le (hr.lt g h) hg.size
  ·exact h.2
 ·rcases h with h | h
  ·exact .inl h
  ·exact .inr h.1
 ·have hfin : All2 (fun u p => RelP N.fn w' (fun g => S g ∨ (w.heap.size ≤ g ∧ g < w'.heap.size)) p u) vs rs := d5 hv hrs fun v hvm u p hvu hp => frR_rel hs.rel (fun id sz xs g hb hgk => by
   refine .inr ⟨?_,hs.rel.blk_lt hb hgk⟩
   rcases Nat.lt_or_ge g w.heap.size with hl | hl
   ·exact absurd (hs.ext.own g ⟨id,hgk,.inr ⟨sz,xs,hb⟩⟩ hl) (no g)
   ·exact hl) (List.all_eq_true.1 hfr v hvm) hvu hp
  exact hfin.imp fun u p h => .p _ _ h
theorem cK : ∀ {l : List AV},iC l = true → ∀ v ∈ l,(∃ p,v = .p p) ∨ ∃ id n,v = .own id n
 | [],_ => by simp
 | v :: l,h => by
  cases v <;> simp only [iC,Bool.false_eq_true] at h
  ·rename_i p
   intro x hx
   rcases List.mem_cons.1 hx with rfl | hx
   ·exact .inl ⟨p,rfl⟩
   ·exact cK h x hx
  ·rename_i id n
   intro x hx
   rcases List.mem_cons.1 hx with rfl | hx
   ·exact .inr ⟨id,n,rfl⟩
   ·exact cK h x hx
theorem tn (hcal : dq Γ N P cal) {o : Oper} {f : Arg} {args : List Arg} {v : AV} {H' : Heap} (hc : chkX P N o (.callf f args) = true) (he : Env.Rel Γ N w S μ H σ a) (hr : Rel N.fn w S μ H)
  (hv : evX Γ cal σ H (.callf f args) = some (v,H')) : ux N P w S μ H o a v H' := by
 simp only [chkX] at hc
 split at hc
 rotate_left
 ·cases hc
 rename_i f' xs' Ts hy
 simp only [Bool.and_eq_true] at hc
 have hf := he.arg hc.1
 have ha := he.args hc.2
 simp only [evX,ifB] at hv
 split at hv
 rotate_left
 ·cases hv
 rename_i hB
 simp only [Bool.and_eq_true] at hB
 simp only [mi,Option.map_eq_some_iff,Option.bind_eq_some_iff,Prod.mk.injEq] at hv
 obtain ⟨rs,⟨fc,hfc,ps,hps,r,hcr,hrs⟩,rfl,rfl⟩ := hv
 obtain ⟨caps,hcl,hcaps⟩ := eC hf hfc
 have hall := ha.append hcaps
 obtain ⟨S',hs,hrow⟩ := gG ((args.map (Arg.ev Γ σ)).flatMap AV.cells) hr
 have own : ∀ {id n u p d},AV.own id n ∈ (args.map (Arg.ev Γ σ)).flatMap AV.cells → RelV N.fn w S μ H (.own id n) u → aq H (d + 1) (.own id n) = some p → RelP N.fn w S' p u := by
  intro id n u p d hm hvu hp
  simp only [aq,Option.map_eq_some_iff] at hp
  obtain ⟨rr,hrr,rfl⟩ := hp
  obtain ⟨fz,hb,hn⟩ := aO hrr
  rw [hvu.own_inv hrr]
  obtain ⟨f1,hb1,hf1⟩ := hrow id fz rr.1 rr.2 hb
  have := hf1 (.inl ⟨n,hm⟩)
  subst this
  refine iR hr hb hs.ext.more fun g hg => ?_
  obtain ⟨_,_,us,_,_,_,h4⟩ := hs.rel.blk id _ hb1
  exact h4 rfl g hg
 have cell : ∀ {c u p d},c ∈ (args.map (Arg.ev Γ σ)).flatMap AV.cells → RelV N.fn w S μ H c u → aq H (d + 1) c = some p → RelP N.fn w S' p u := by
  intro c u p d hm hvu hp
  rcases cK hB.1 c hm with ⟨q,rfl⟩ | ⟨id,n,rfl⟩
  ·simp only [aq,Option.some.injEq] at hp; subst hp
   exact hvu.p_inv.more hs.ext.more
  ·exact own hm hvu hp
 have hall' : All2 (fun u p => RelP N.fn w S' p u) (xs'.map a.eval ++ caps.toList) ps := d5 hall hps fun v hv u p hvu hp => by
  rcases List.mem_append.1 hv with h | h
  ·have sub : ∀ c ∈ v.cells,c ∈ (args.map (Arg.ev Γ σ)).flatMap AV.cells := fun c hc => List.mem_flatMap.2 ⟨v,h,hc⟩
   cases v with
   | p q => simp only [aq,Option.some.injEq] at hp; subst hp; exact hvu.p_inv.more hs.ext.more
   | own id n => exact own (sub _ (by simp [AV.cells])) hvu hp
   | agg cs =>
    rw [show aq H 4 (.agg cs) = (mapO (aq H 3) cs).map .agg from rfl,Option.map_eq_some_iff] at hp
    obtain ⟨qs,hqs,rfl⟩ := hp
    obtain ⟨h1,h2⟩ := aV hqs
    cases hvu with
    | agg _ us h3 h4 h5 =>
     refine .agg qs us (by rw [h3,h1]) (fun c hc => ?_) (fun j c hc => ?_)
     ·obtain ⟨j,hj⟩ := List.getElem?_of_mem hc
      obtain ⟨x,hx,hx'⟩ := h2 j c hj
      exact fE hx' (h4 x (List.mem_of_getElem? hx))
     ·obtain ⟨x,hx,hx'⟩ := h2 j c hc
      exact cell (sub x (List.mem_of_getElem? hx)) (h5 j x hx) hx'
   | bx id off => rcases cK hB.1 _ (sub (.bx id off) (by simp [AV.cells])) with ⟨_,h⟩ | ⟨_,_,h⟩ <;> cases h
   | el id n i off => rcases cK hB.1 _ (sub (.el id n i off) (by simp [AV.cells])) with ⟨_,h⟩ | ⟨_,_,h⟩ <;> cases h
   | mp id => simp [aq] at hp
   | clo f cs => rcases cK hB.1 _ (sub (.clo f cs) (by simp [AV.cells])) with ⟨_,h⟩ | ⟨_,_,h⟩ <;> cases h
   | tup cs => simp [aq] at hp
   | nov => simp [aq] at hp
   | any => simp [aq] at hp
  ·obtain ⟨q,rfl⟩ := vK hB.2 hfc v h
   simp only [aq,Option.some.injEq] at hp; subst hp
   exact hvu.p_inv.more hs.ext.more
 have h2 := fT hcal hs.rel.lt (he.glrel.more hs.ext.more) hall' hcr hrs
 refine ⟨_,_,eW hy hcl,h2.mono ?_⟩
 rintro e w' ⟨vs,rfl,hg,hvs⟩
 refine ⟨_,μ,hs.trans (.grow hs.rel hg (fun g h => .inl h) (fun g h => ?_) (fun g h => ?_)),cY (All2.map_right (hvs.imp fun u p h => .p _ _ h))⟩
 ·rcases h with h | h
  ·exact Nat.lt_of_lt_of_le (hs.rel.lt g h) hg.size
  ·exact h.2
 ·rcases h with h | h
  ·exact .inl h
  ·exact .inr h.1
end
end Ab
