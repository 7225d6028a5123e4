import Derived.Test.YtlgclfmmnifgoaaGreatDoorAbRel
import Derived.Control
import Derived.Calls
import Derived.WalkKit
import Derived.Laws.StructEq
namespace Ab
open Go (IntKind BinOp UnOp World Value Addr Obj undef maxLen Program TypeId Oper Op Operand Act Sem Next Result execOp Builtin)
structure Names where
 fn : Nat → Nat
 gl : Nat → Nat
def vD : Value → PV → Bool
 | .int k n, .int k' n' => k == k' && n == n'
 | .bool a, .bool b => a == b
 | .string s, .str l => s.data.toList == l
 | .pointer none, .nilp => true
 | .nilFunc, .nilfn => true
 | .map none, .nilmap => true
 | .slice none 0 0, .sl .nil _ [] => true
 | _, _ => false
def lO : List Value → List PV → Bool
 | [], [] => true
 | v :: vs, p :: ps => vD v p && lO vs ps
 | _, _ => false
def pO : Value → PV → Bool
 | .agg us, .agg ps => lO us.toList ps
 | v, p => vD v p
theorem pg {ν w S v p} (h : vD v p = true) : RelP ν w S p v ∧ p.one = true := by
 unfold vD at h
 split at h
 ·simp only [Bool.and_eq_true, beq_iff_eq] at h; obtain ⟨rfl, rfl⟩ := h; exact ⟨.int _ _, rfl⟩
 ·simp only [beq_iff_eq] at h; subst h; exact ⟨.bool _, rfl⟩
 ·rename_i s l
  simp only [beq_iff_eq] at h; subst h
  exact ⟨.str s.data.toList, rfl⟩
 ·exact ⟨.nilp, rfl⟩
 ·exact ⟨.nilfn, rfl⟩
 ·exact ⟨.nilmap, rfl⟩
 ·exact ⟨.sl .nil _ [] none 0 (fun _ _ => undef) (Nat.le_refl _) (Nat.zero_le _) (by simp) (by simp) (by simp) (by simp) (by simp) (by simp), rfl⟩
 ·cases h
theorem fV {ν w S} : ∀ {vs ps}, lO vs ps = true → vs.length = ps.length ∧ (∀ c ∈ ps, c.one = true) ∧ ∀ (j : Nat) c, ps[j]? = some c → RelP ν w S c (vs.getD j undef)
 | [], [], _ => ⟨rfl, by simp, by simp⟩
 | v :: vs, p :: ps, h => by
  simp only [lO, Bool.and_eq_true] at h
  obtain ⟨h1, h2, h3⟩ := fV (ν := ν) (w := w) (S := S) h.2
  obtain ⟨h4, h5⟩ := pg (ν := ν) (w := w) (S := S) h.1
  refine ⟨by simp [h1], fun c hc => ?_, fun j c hc => ?_⟩
  ·rcases List.mem_cons.1 hc with rfl | hc
   ·exact h5
   ·exact h2 c hc
  ·cases j with
   | zero => simp only [List.getElem?_cons_zero, Option.some.injEq] at hc; subst hc; simpa using h4
   | succ j => simp only [List.getElem?_cons_succ] at hc; simpa using h3 j c hc
 | [], _ :: _, h => by cases h
 | _ :: _, [], h => by cases h
theorem nZ {ν w S v p} (h : pO v p = true) : RelP ν w S p v := by
 unfold pO at h
 split at h
 ·rename_i us ps
  obtain ⟨h1, h2, h3⟩ := fV (ν := ν) (w := w) (S := S) h
  exact .agg ps us (by simpa using h1) h2 (fun j c hc => by simpa using h3 j c hc)
 ·exact (pg h).1
def ak (N : Names) : Operand → Arg → Bool
 | .tmp t, .v t' => t == t'
 | .const v, .c p => pO v p
 | .global g, .g n => N.gl n == g
 | .func f, .f n => N.fn n == f
 | _, _ => false
structure GlRel (Γ : Ctx) (N : Names) (w : World) (S : Nat → Prop) : Prop where
 rel : ∀ n cs, Γ.gl n = some cs → RelP N.fn w S (.ptr cs) (.pointer (some ⟨N.gl n, 0, none⟩))
 whole : ∀ n cs, Γ.gl n = some cs → ∃ us e fr, w.heap[N.gl n]? = some (.cells us e fr) ∧ us.size = cs.length
 ints : ∀ n ∈ Γ.gi, S (N.gl n) ∧ ∃ m, w.cell? ⟨N.gl n, 0, none⟩ = some (.int .i64 m)
structure Env.Rel (Γ : Ctx) (N : Names) (w : World) (S : Nat → Prop) (μ : Nat → Value) (H : Heap) (σ : Nat → AV) (a : Act) : Prop where
 env : ∀ t, RelV N.fn w S μ H (σ t) (a.tmps.getD t undef)
 gl : GlRel Γ N w S
theorem Env.Rel.arg {Γ N w S μ H σ a} (h : Env.Rel Γ N w S μ H σ a) {o x} (hc : ak N o x = true) : RelV N.fn w S μ H (x.ev Γ σ) (a.eval o) := by
 unfold ak at hc
 split at hc
 ·simp only [beq_iff_eq] at hc; subst hc; exact h.env _
 ·exact .p _ _ (nZ hc)
 ·simp only [beq_iff_eq] at hc; subst hc
  simp only [Arg.ev]
  cases hg : Γ.gl _ with
  | none => exact .any _
  | some cs => exact .p _ _ (h.gl.rel _ cs hg)
 ·simp only [beq_iff_eq] at hc; subst hc
  exact .p _ _ (.clo _ [] #[] rfl (by simp) (by simp))
 ·cases hc
structure Grows (w w' : World) : Prop where
 os : w'.os = w.os
 tape : w'.tape = w.tape
 output : w'.output = w.output
 size : w.heap.size ≤ w'.heap.size
 keep : ∀ g, g < w.heap.size → w'.heap[g]? = w.heap[g]?
theorem Grows.refl (w : World) : Grows w w := ⟨rfl, rfl, rfl, Nat.le_refl _, fun _ _ => rfl⟩
theorem Grows.trans {a b c : World} (h : Grows a b) (k : Grows b c) : Grows a c :=
 ⟨k.os.trans h.os, k.tape.trans h.tape, k.output.trans h.output, Nat.le_trans h.size k.size, fun g hg => (k.keep g (Nat.lt_of_lt_of_le hg h.size)).trans (h.keep g hg)⟩
theorem Grows.alloc (w : World) (o : Obj) : Grows w (w.alloc o) := ⟨rfl, rfl, rfl, by simp, fun g hg => Go.RowKit.Below.heap_alloc w o g hg⟩
theorem Grows.drew (w : World) : Grows w w.drew := ⟨rfl, rfl, rfl, Nat.le_refl _, fun _ _ => rfl⟩
def QRes (ν : Nat → Nat) (_P : Program) (w : World) (S : Nat → Prop) (μ : Nat → Value) (H : Heap) (r : Result Next) (v : AV) : Prop :=
 ∃ u w' S', r = .ok (.value u) w' ∧ Grows w w' ∧ (∀ g, S g → S' g) ∧ (∀ g, S' g → g < w'.heap.size) ∧ (∀ g, S' g → S g ∨ w.heap.size ≤ g) ∧ RelV ν w' S' μ H v u
theorem QRes.same {ν P w S μ H r v u} (hS : ∀ g, S g → g < w.heap.size) (hr : r = .ok (.value u) w) (h : RelV ν w S μ H v u) : QRes ν P w S μ H r v :=
 ⟨u, w, S, hr, Grows.refl w, fun _ h => h, hS, fun _ h => .inl h, h⟩
section
variable {Γ : Ctx} {N : Names} {P : Program} {w : World} {S : Nat → Prop} {μ : Nat → Value} {H : Heap} {σ : Nat → AV} {a : Act}
theorem RelV.bool_inv {ν t u} (h : RelV ν w S μ H (.p (.bool t)) u) : u = .bool t := by cases h with | p _ _ h => cases h; rfl
theorem RelV.int_inv {ν k n u} (h : RelV ν w S μ H (.p (.int k n)) u) : u = .int k n := by cases h with | p _ _ h => cases h; rfl
theorem RelV.str_inv {ν s u} (h : RelV ν w S μ H (.p (.str s)) u) : u = .string ⟨s.toArray⟩ := by cases h with | p _ _ h => cases h; rfl
theorem RelV.p_inv {ν v u} (h : RelV ν w S μ H (.p v) u) : RelP ν w S v u := by cases h with | p _ _ h => exact h
theorem q_pick {c x y : Operand} {c' x' y' : Arg} {v : AV} (hr : Env.Rel Γ N w S μ H σ a) (h1 : ak N c c' = true) (h2 : ak N x x' = true) (h3 : ak N y y' = true)
  (hv : rL (c'.ev Γ σ) (x'.ev Γ σ) (y'.ev Γ σ) = some v) : ∃ u, (do pure (.value (if ← Go.asBool (a.eval c) then a.eval x else a.eval y)) : Sem Next).run P w = .ok (.value u) w ∧ RelV N.fn w S μ H v u := by
 unfold rL at hv
 split at hv
 ·rename_i t ht
  have e := hr.arg h1
  rw [ht] at e
  rw [e.bool_inv]
  simp only [Option.some.injEq] at hv
  subst hv
  cases t
  ·exact ⟨a.eval y, by simp [Go.asBool], hr.arg h3⟩
  ·exact ⟨a.eval x, by simp [Go.asBool], hr.arg h2⟩
 ·cases hv
theorem Bh {id n i : Nat} (h : elOk H id n i = true) : ∃ f sz xs, H[id]? = some (.row f sz xs) ∧ xs.length = n ∧ i < n := by
 unfold elOk rowOf at h
 cases hH : H[id]? with
 | none => simp [hH] at h
 | some b =>
  cases b with
  | box => simp [hH] at h
  | dead => simp [hH] at h
  | row f sz xs =>
   simp only [hH] at h
   split at h
   ·rename_i hx
    split at hx
    ·rename_i hn
     exact ⟨f, sz, xs, rfl, hn, by simpa using h⟩
    ·cases hx
   ·cases h
theorem RelV.el_inv {ν id n i off u} (h : RelV ν w S μ H (.el id n i off) u) (hok : elOk H id n i = true) :
  ∃ f sz xs g cap, H[id]? = some (.row f sz xs) ∧ xs.length = n ∧ i < n ∧ μ id = .slice (some ⟨g, 0, none⟩) n cap ∧ u = .pointer (some ⟨g, i * sz + off, none⟩) := by
 obtain ⟨f, sz, xs, h1, h2, h3⟩ := Bh hok
 cases h with
 | el _ _ _ _ _ hl h hone =>
  obtain ⟨_, h4⟩ := h f sz xs h1
  obtain ⟨g, cap, h5, h6⟩ := (h4 h2.symm).1 h3
  exact ⟨f, sz, xs, g, cap, h1, h2, h3, h5, h6⟩
theorem RelV.bx_inv {ν id off u} (h : RelV ν w S μ H (.bx id off) u) : ∃ g, u = .pointer (some ⟨g, off, none⟩) ∧ id < H.length ∧ ∀ cs, H[id]? = some (.box cs) → μ id = .pointer (some ⟨g, 0, none⟩) := by
 cases h with | bx _ _ g _ hl h1 h2 => exact ⟨g, h2, hl, h1⟩
theorem q_nilchk {x : Value} {x' v : AV} (hx : RelV N.fn w S μ H x' x) (hv : eS H x' = some v) :
  v = x' ∧ ((∃ a, x = .pointer (some a)) ∨ (∃ f cs, x = .func (.func f) #[] cs)) := by
 unfold eS at hv
 split at hv
 ·simp only [Option.some.injEq] at hv; subst hv
  cases hx with | p _ _ h => cases h; exact ⟨rfl, .inl ⟨_, rfl⟩⟩
 ·simp only [Option.some.injEq] at hv; subst hv
  obtain ⟨g, h, _⟩ := hx.bx_inv
  exact ⟨rfl, .inl ⟨_, h⟩⟩
 ·unfold ifB at hv
  split at hv
  ·rename_i hok
   simp only [Option.some.injEq] at hv; subst hv
   obtain ⟨_, _, _, _, _, _, _, _, _, h⟩ := hx.el_inv hok
   exact ⟨rfl, .inl ⟨_, h⟩⟩
  ·cases hv
 ·simp only [Option.some.injEq] at hv; subst hv
  cases hx with | p _ _ h => cases h; exact ⟨rfl, .inr ⟨_, _, rfl⟩⟩
 ·simp only [Option.some.injEq] at hv; subst hv
  cases hx; exact ⟨rfl, .inr ⟨_, _, rfl⟩⟩
 ·cases hv
theorem xD {op : BinOp} {k k' : IntKind} {x y : Int} {T : TypeId} {v : PV} (hk : k = k' ∨ op = .shl ∨ op = .shr) (h : fm op k x y = some v) :
  ∃ u, (Go.binOp op T (.int k x) (.int k' y)).run P w = .ok u w ∧ RelP N.fn w S v u := by
 cases op
 case shl =>
  simp only [fm] at h
  split at h
  ·cases h
  ·rename_i hy
   simp only [Option.some.injEq] at h; subst h
   exact ⟨_, by simp [Go.binOp, Go.Op.shift, hy], .int _ _⟩
 case shr =>
  simp only [fm] at h
  split at h
  ·cases h
  ·rename_i hy
   simp only [Option.some.injEq] at h; subst h
   exact ⟨_, by simp [Go.binOp, Go.Op.shift, hy], .int _ _⟩
 all_goals
  simp only [reduceCtorEq, or_false] at hk
  subst hk
  simp only [fm] at h
 case quo =>
  split at h
  ·cases h
  ·rename_i hy
   simp only [Option.some.injEq] at h; subst h
   exact ⟨_, by simp [Go.binOp, Go.Op.intDiv, hy], .int _ _⟩
 case rem =>
  split at h
  ·cases h
  ·rename_i hy
   simp only [Option.some.injEq] at h; subst h
   exact ⟨_, by simp [Go.binOp, Go.Op.intDiv, hy], .int _ _⟩
 all_goals
  simp only [Option.some.injEq] at h
  subst h
 case add => exact ⟨_, by simp [Go.binOp, Go.Op.intArith], .int _ _⟩
 case sub => exact ⟨_, by simp [Go.binOp, Go.Op.intArith], .int _ _⟩
 case mul => exact ⟨_, by simp [Go.binOp, Go.Op.intArith], .int _ _⟩
 case and => exact ⟨_, by simp [Go.binOp, Go.Op.intBits], .int _ _⟩
 case or => exact ⟨_, by simp [Go.binOp, Go.Op.intBits], .int _ _⟩
 case xor => exact ⟨_, by simp [Go.binOp, Go.Op.intBits], .int _ _⟩
 case andNot => exact ⟨_, by simp [Go.binOp, Go.Op.intBits], .int _ _⟩
 case eql => exact ⟨.bool (x == y), by simp [Go.binOp, Go.Op.intCmp], .bool _⟩
 case neq => exact ⟨.bool (x != y), by simp [Go.binOp, Go.Op.intCmp], .bool _⟩
 case lss => exact ⟨.bool (decide (x < y)), by simp [Go.binOp, Go.Op.intCmp], .bool _⟩
 case leq => exact ⟨.bool (decide (x ≤ y)), by simp [Go.binOp, Go.Op.intCmp], .bool _⟩
 case gtr => exact ⟨.bool (decide (y < x)), by simp [Go.binOp, Go.Op.intCmp], .bool _⟩
 case geq => exact ⟨.bool (decide (y ≤ x)), by simp [Go.binOp, Go.Op.intCmp], .bool _⟩
theorem bytesLess_eq : ∀ a b, Ab.bytesLess a b = Go.Op.bytesLess a b
 | _, [] => by simp [Ab.bytesLess, Go.Op.bytesLess]
 | [], _ :: _ => by simp [Ab.bytesLess, Go.Op.bytesLess]
 | a :: x, b :: y => by simp [Ab.bytesLess, Go.Op.bytesLess, bytesLess_eq x y]
theorem yW (x y : List UInt8) : (ByteArray.mk x.toArray) ++ (ByteArray.mk y.toArray) = ByteArray.mk (x ++ y).toArray := by
 apply ByteArray.ext
 simp [ByteArray.data_append]
theorem size_mk (x : List UInt8) : (ByteArray.mk x.toArray).size = x.length := by simp [ByteArray.size]
theorem wY {op : BinOp} {x y : List UInt8} {T : TypeId} {v : PV} (h : nh op x y = some v) :
  ∃ u, (Go.binOp op T (.string ⟨x.toArray⟩) (.string ⟨y.toArray⟩)).run P w = .ok u w ∧ RelP N.fn w S v u := by
 cases op
 case add =>
  simp only [nh] at h
  split at h
  ·rename_i hl
   simp only [Option.some.injEq] at h; subst h
   refine ⟨.string ⟨(x ++ y).toArray⟩, ?_, .str _⟩
   have e : ¬ ((((ByteArray.mk x.toArray).size + (ByteArray.mk y.toArray).size : Nat) : Int) > IntKind.i64.max) := by
    rw [size_mk, size_mk, show IntKind.i64.max = maxI from rfl]; omega
   simp only [Go.binOp, Go.Op.stringOp, if_neg e, yW]
   simp
  ·cases h
 all_goals
  simp only [nh, Option.some.injEq, reduceCtorEq] at h
 all_goals
  subst h
  exact ⟨_, by simp [Go.binOp, Go.Op.stringOp, bytesLess_eq], .bool _⟩
theorem RelP.int_inv {ν k n u} (h : RelP ν w S (.int k n) u) : u = .int k n := by cases h; rfl
theorem RelP.bool_inv {ν t u} (h : RelP ν w S (.bool t) u) : u = .bool t := by cases h; rfl
theorem RelP.str_inv {ν s u} (h : RelP ν w S (.str s) u) : u = .string ⟨s.toArray⟩ := by cases h; rfl
def cc (P : Program) (t : TypeId) : Nat → Bool
 | 0 => match P.underlying t with | some (.int _) => true | _ => false
 | 1 => match P.underlying t with | some .bool => true | _ => false
 | 2 => match P.underlying t with | some .string => true | _ => false
 | _ => false
def eqFs (P : Program) : List Go.Field → List Nat → Nat → Bool
 | [], [], _ => true
 | f :: fs, kd :: ks, k => f.name != "_" && f.offset == k && cc P f.type kd && eqFs P fs ks (k + 1)
 | _, _, _ => false
def eqsT (P : Program) (T : TypeId) (ks : List Nat) : Bool :=
 match P.underlying T with
 | some (.struct fs) => !P.stoodInHeld T && !P.eqGuardType P.depth T && eqFs P fs.toList ks 0
 | _ => false
def aggB (P : Program) (t : TypeId) : Option Bool :=
 match P.underlying t with
 | some (.struct _) | some (.array _ _) => some true
 | some _ => some false
 | none => none
theorem kA {t : TypeId} {b : Bool} (h : aggB P t = some b) : (Go.isAgg t).run P w = .ok b w := by
 unfold aggB at h
 cases hu : P.underlying t with
 | none => simp [hu] at h
 | some d =>
  rw [hu] at h
  cases d <;> simp only [Option.some.injEq] at h <;> subst h <;> simp [Go.isAgg, Go.run_underlying hu]
theorem qJ {t : TypeId} {kd : Nat} (ht : cc P t kd = true) : aggB P t = some false := by
 unfold cc at ht
 split at ht
 all_goals first | cases ht | skip
 all_goals
  split at ht
  ·rename_i hu; simp [aggB, hu]
  ·cases ht
theorem im {t : TypeId} {xs : Array Value} {k : Nat} (ht : aggB P t = some false) (hk : k < xs.size) : (Go.part t xs k).run P w = .ok (xs.getD k undef) w := by
 simp [Go.part, kA ht, hk]
theorem l7 {t : TypeId} {xs : Array Value} {k sz : Nat} (ht : aggB P t = some true) (hs : (P.info? t).map (·.size) = some sz) : (Go.part t xs k).run P w = .ok (.agg (xs.extract k (k + sz))) w := by
 obtain ⟨i, hi, hsz⟩ := Option.map_eq_some_iff.1 hs
 simp [Go.part, kA ht, Go.sizeOf, Go.typeInfo, hi, hsz]
theorem cw {t : TypeId} {kd : Nat} {xs : Array Value} {k : Nat} (ht : cc P t kd = true) (hk : k < xs.size) : (Go.part t xs k).run P w = .ok (xs.getD k undef) w :=
 im (qJ ht) hk
theorem me {d : Nat} {xs ys : Array Value} : ∀ (fs : List Go.Field) (ks : List Nat) (k : Nat) (as bs : List PV) (b : Bool), eqFs P fs ks k = true → k + as.length ≤ xs.size → k + bs.length ≤ ys.size →
  (∀ (j : Nat) c, as[j]? = some c → RelP N.fn w S c (xs.getD (k + j) undef)) → (∀ (j : Nat) c, bs[j]? = some c → RelP N.fn w S c (ys.getD (k + j) undef)) → az ks as bs = some b →
  (Go.Op.eqFields (d + 1) xs ys fs).run P w = .ok b w := by
 intro fs
 induction fs with
 | nil =>
  intro ks k as bs b hf _ _ _ _ he
  cases ks with
  | nil =>
   cases as <;> cases bs <;> simp only [az, Option.some.injEq, reduceCtorEq] at he
   subst he
   simp [Go.Op.eqFields]
  | cons => simp [eqFs] at hf
 | cons f fs ih =>
  intro ks k as bs b hf h3 h4 ha hb he
  cases ks with
  | nil => simp [eqFs] at hf
  | cons kd ks =>
   simp only [eqFs, Bool.and_eq_true, bne_iff_ne, ne_eq, beq_iff_eq] at hf
   obtain ⟨⟨⟨hn, ho⟩, ht⟩, hfs⟩ := hf
   have key : ∀ (x y : PV) (as' bs' : List PV) (t : Bool), as = x :: as' → bs = y :: bs' → (az ks as' bs').map (t && ·) = some b →
     (Go.Op.equalIn (d + 1) f.type (xs.getD k undef) (ys.getD k undef)).run P w = .ok t w → (Go.Op.eqFields (d + 1) xs ys (f :: fs)).run P w = .ok b w := by
    intro x y as' bs' t e1 e2 hr hq
    subst e1 e2
    simp only [List.length_cons] at h3 h4
    have r1 := cw (P := P) (w := w) (xs := xs) (k := k) ht (by omega)
    have r2 := cw (P := P) (w := w) (xs := ys) (k := k) ht (by omega)
    simp only [Go.Op.eqFields, ho, ne_eq, hn, not_false_eq_true, if_true, Go.Sem.run_bind, r1, r2, Go.Result.andThen_ok, hq]
    cases t
    ·simp only [Bool.not_false, if_true]
     cases hrest : az ks as' bs' <;> simp [hrest] at hr
     subst hr
     simp
    ·simp only [Bool.not_true, Bool.false_eq_true, if_false]
     exact ih ks (k + 1) as' bs' b hfs (by omega) (by omega) (fun j c hj => by have := ha (j + 1) c (by simpa using hj); rwa [show k + (j + 1) = k + 1 + j by omega] at this)
      (fun j c hj => by have := hb (j + 1) c (by simpa using hj); rwa [show k + (j + 1) = k + 1 + j by omega] at this) (by simpa using hr)
   unfold az at he
   split at he
   ·rename_i e; cases e
   ·rename_i e
    cases e
    split at he
    ·rename_i hk
     have ax := (ha 0 _ rfl).int_inv
     have ay := (hb 0 _ rfl).int_inv
     rw [Nat.add_zero] at ax ay
     refine key _ _ _ _ _ rfl rfl he ?_
     rw [ax, ay, hk]
     simp only [cc] at ht
     split at ht
     ·rename_i hu; simp [Go.Op.equalIn, Go.run_underlying hu]
     ·cases ht
    ·cases he
   ·rename_i e
    cases e
    have ax := (ha 0 _ rfl).bool_inv
    have ay := (hb 0 _ rfl).bool_inv
    rw [Nat.add_zero] at ax ay
    refine key _ _ _ _ _ rfl rfl he ?_
    rw [ax, ay]
    simp only [cc] at ht
    split at ht
    ·rename_i hu; simp [Go.Op.equalIn, Go.run_underlying hu]
    ·cases ht
   ·rename_i e
    cases e
    have ax := (ha 0 _ rfl).str_inv
    have ay := (hb 0 _ rfl).str_inv
    rw [Nat.add_zero] at ax ay
    refine key _ _ _ _ _ rfl rfl he ?_
    rw [ax, ay]
    simp only [cc] at ht
    split at ht
    ·rename_i hu; rw [Go.run_equalIn_string _ _ _ _ _ hu]; simp
    ·cases ht
   ·cases he
theorem q_eqs {op : BinOp} {T : TypeId} {ks : List Nat} {neg : Bool} {x y : Operand} {x' y' v : AV} (hop : op = if neg then .neq else .eql) (ht : eqsT P T ks = true)
  (hx : RelV N.fn w S μ H x' (a.eval x)) (hy : RelV N.fn w S μ H y' (a.eval y)) (hv : eqsA ks neg x' y' = some v) :
  ∃ u, (do Go.eqGuard op T x y (a.eval x) (a.eval y); Go.binOp op T (a.eval x) (a.eval y)).run P w = .ok u w ∧ RelV N.fn w S μ H v u := by
 unfold eqsA at hv
 split at hv
 ·rename_i as bs
  obtain ⟨t, he, rfl⟩ := Option.map_eq_some_iff.1 hv
  cases hx with
  | p _ _ hx =>
  cases hy with
  | p _ _ hy =>
  generalize a.eval x = vx at *
  generalize a.eval y = vy at *
  cases hx with
  | agg _ xs h1 h2 h3 =>
  cases hy with
  | agg _ ys k1 k2 k3 =>
  unfold eqsT at ht
  split at ht
  ·rename_i fs hfs
   simp only [Bool.and_eq_true, Bool.not_eq_true'] at ht
   obtain ⟨⟨hp, hg⟩, hf⟩ := ht
   have hfo : P.fieldsOf T = fs := by simp [Program.fieldsOf, hfs]
   have hr := me (P := P) (w := w) (N := N) (S := S) (d := 9998) (xs := xs) (ys := ys) fs.toList ks 0 as bs t hf (by omega) (by omega)
    (fun j c hj => by rw [Nat.zero_add]; exact h3 j c hj) (fun j c hj => by rw [Nat.zero_add]; exact k3 j c hj) he
   have hq : (Go.Op.equalIn 10000 T (.agg xs) (.agg ys)).run P w = .ok t w := by
    rw [show (10000 : Nat) = 9999 + 1 from rfl, Go.run_equalIn_struct w 9999 T xs ys (by rw [hfo]; exact hfs) hp, hfo]
    exact hr
   subst hop
   cases neg
   ·refine ⟨.bool t, ?_, .p _ _ (by cases t <;> exact .bool _)⟩
    simp only [Bool.false_eq_true, if_false, Go.Sem.run_bind, Go.run_eqGuard_agg w _ T x y xs ys hg, Go.Result.andThen_ok, Go.run_eql_struct, hq]
   ·refine ⟨.bool (!t), ?_, .p _ _ (by cases t <;> exact .bool _)⟩
    simp only [if_true, Go.Sem.run_bind, Go.run_eqGuard_agg w _ T x y xs ys hg, Go.Result.andThen_ok, Go.run_neq_struct, hq]
  ·cases ht
 ·cases hv
def eqkT (P : Program) (T : TypeId) : Nat → Bool
 | 1 => match P.underlying T with | some .bool => true | _ => false
 | 3 => match P.underlying T with | some (.pointer _) => true | _ => false
 | 4 => match P.underlying T with | some (.slice _) => true | _ => false
 | 5 => match P.underlying T with | some (.func _ _ _) => true | _ => false
 | _ => false
def g6 : Value → Bool
 | .bool _ | .pointer _ | .slice _ _ _ | .func _ _ _ | .nilFunc => true
 | _ => false
theorem fQ {op : BinOp} {T : TypeId} {x y : Operand} {u v : Value} (h : g6 u = true) : (Go.eqGuard op T x y u v).run P w = .ok () w := by
 cases u <;> simp only [g6, Bool.false_eq_true] at h <;> cases op <;> simp [Go.eqGuard]
theorem lR {T : TypeId} {u v : Value} {t : Bool} (neg : Bool) (h : g6 u = true) (h' : g6 v = true) (hq : (Go.Op.equalIn 10000 T u v).run P w = .ok t w) :
  (Go.binOp (if neg then .neq else .eql) T u v).run P w = .ok (.bool (t != neg)) w := by
 have e : (Go.Op.equal T u v).run P w = .ok t w := hq
 have key : ∀ op : BinOp, op = .eql ∨ op = .neq → Go.binOp op T u v = (match op with | .eql => (do pure (.bool (← Go.Op.equal T u v))) | _ => do pure (.bool (!(← Go.Op.equal T u v)))) := by
  intro op ho
  cases u <;> simp only [g6, Bool.false_eq_true] at h <;> cases v <;> simp only [g6, Bool.false_eq_true] at h' <;> rcases ho with rfl | rfl <;> rfl
 cases neg
 ·rw [if_neg (by decide), key _ (.inl rfl)]
  simp only [Go.Sem.run_bind, e, Go.Result.andThen_ok, Go.Sem.run_pure]
  cases t <;> rfl
 ·rw [if_pos rfl, key _ (.inr rfl)]
  simp only [Go.Sem.run_bind, e, Go.Result.andThen_ok, Go.Sem.run_pure]
  cases t <;> rfl
section
variable {d : Nat} {T : TypeId}
theorem zq (hu : P.underlying T = some .bool) (m n : Bool) : (Go.Op.equalIn (d + 1) T (.bool m) (.bool n)).run P w = .ok (m == n) w := by simp [Go.Op.equalIn, Go.run_underlying hu]
theorem qN {e} (hu : P.underlying T = some (.pointer e)) (m : Option Addr) : (Go.Op.equalIn (d + 1) T (.pointer m) (.pointer none)).run P w = .ok m.isNone w := by
 cases m <;> simp [Go.Op.equalIn, Go.run_underlying hu]
theorem rJ {e} (hu : P.underlying T = some (.pointer e)) (m : Option Addr) : (Go.Op.equalIn (d + 1) T (.pointer none) (.pointer m)).run P w = .ok m.isNone w := by
 simp [Go.Op.equalIn, Go.run_underlying hu]
theorem oC {e} (hu : P.underlying T = some (.slice e)) (m : Option Addr) (n c n' c' : Nat) : (Go.Op.equalIn (d + 1) T (.slice m n c) (.slice none n' c')).run P w = .ok m.isNone w := by
 cases m <;> simp [Go.Op.equalIn, Go.run_underlying hu]
theorem Ao {a b c} (hu : P.underlying T = some (.func a b c)) (f x y) : (Go.Op.equalIn (d + 1) T (.func f x y) .nilFunc).run P w = .ok false w := by
 simp [Go.Op.equalIn, Go.run_underlying hu]
theorem wI {a b c} (hu : P.underlying T = some (.func a b c)) : (Go.Op.equalIn (d + 1) T .nilFunc .nilFunc).run P w = .ok true w := by
 simp [Go.Op.equalIn, Go.run_underlying hu]
end
theorem q_eqk {op : BinOp} {T : TypeId} {kd : Nat} {neg : Bool} {x y : Operand} {x' y' v : AV} (hop : op = if neg then .neq else .eql) (ht : eqkT P T kd = true)
  (hx : RelV N.fn w S μ H x' (a.eval x)) (hy : RelV N.fn w S μ H y' (a.eval y)) (hv : eqkA kd neg x' y' = some v) :
  ∃ u, (do Go.eqGuard op T x y (a.eval x) (a.eval y); Go.binOp op T (a.eval x) (a.eval y)).run P w = .ok u w ∧ RelV N.fn w S μ H v u := by
 unfold eqkA at hv
 obtain ⟨t, he, rfl⟩ := Option.map_eq_some_iff.1 hv
 subst hop
 generalize a.eval x = vx at *
 generalize a.eval y = vy at *
 have key : g6 vx = true → g6 vy = true → (Go.Op.equalIn 10000 T vx vy).run P w = .ok t w →
   ∃ u, (do Go.eqGuard (if neg = true then .neq else .eql) T x y vx vy; Go.binOp (if neg = true then .neq else .eql) T vx vy).run P w = .ok u w ∧ RelV N.fn w S μ H (.p (.bool (t != neg))) u := by
  intro h1 h2 h3
  refine ⟨.bool (t != neg), ?_, .p _ _ (.bool _)⟩
  simp only [Go.Sem.run_bind, fQ h1, Go.Result.andThen_ok]
  exact lR neg h1 h2 h3
 unfold eqK at he
 split at he
 case h_14 => cases he
 all_goals
  simp only [Option.some.injEq] at he
  subst he
  simp only [eqkT] at ht
  split at ht
  rotate_left
  ·cases ht
  rename_i hu
 ·rw [hx.bool_inv, hy.bool_inv] at key ⊢
  exact key rfl rfl (zq hu _ _)
 ·have e1 := hx.p_inv; have e2 := hy.p_inv; cases e1; cases e2; exact key rfl rfl (qN hu _)
 ·have e1 := hx.p_inv; have e2 := hy.p_inv; cases e1; cases e2; exact key rfl rfl (qN hu _)
 ·have e1 := hx.p_inv; have e2 := hy.p_inv; cases e1; cases e2; exact key rfl rfl (rJ hu _)
 ·obtain ⟨g, e1, _⟩ := hx.bx_inv; have e2 := hy.p_inv; subst e1; cases e2; exact key rfl rfl (qN hu _)
 ·obtain ⟨g, e1, _⟩ := hy.bx_inv; have e2 := hx.p_inv; subst e1; cases e2; exact key rfl rfl (rJ hu _)
 ·have e1 := hx.p_inv; have e2 := hy.p_inv
  cases e1 with | sl _ _ _ a1 c1 us1 _ _ _ h5 _ _ _ _ =>
  cases e2 with | sl _ _ _ a2 c2 us2 _ _ _ k5 _ _ _ _ =>
  obtain ⟨_, rfl, _⟩ := h5 (.inl rfl)
  obtain ⟨_, rfl, _⟩ := k5 (.inl rfl)
  exact key rfl rfl (oC hu _ _ _ _ _)
 ·have e1 := hx.p_inv; have e2 := hy.p_inv
  cases e1 with | sl _ _ _ a1 c1 us1 _ _ _ _ h5 _ _ _ =>
  cases e2 with | sl _ _ _ a2 c2 us2 _ _ _ k5 _ _ _ _ =>
  obtain ⟨h6, _⟩ := h5 (.inl rfl)
  obtain ⟨_, rfl, _⟩ := k5 (.inl rfl)
  obtain ⟨a1', rfl⟩ := Option.isSome_iff_exists.1 h6
  exact key rfl rfl (oC hu _ _ _ _ _)
 ·have e1 := hx.p_inv; have e2 := hy.p_inv
  cases e1 with | sl _ _ _ a1 c1 us1 _ _ _ _ h5 _ _ _ =>
  cases e2 with | sl _ _ _ a2 c2 us2 _ _ _ k5 _ _ _ _ =>
  obtain ⟨h6, _⟩ := h5 (.inr rfl)
  obtain ⟨_, rfl, _⟩ := k5 (.inl rfl)
  obtain ⟨a1', rfl⟩ := Option.isSome_iff_exists.1 h6
  exact key rfl rfl (oC hu _ _ _ _ _)
 ·have e1 := hx.p_inv; have e2 := hy.p_inv
  cases e1 with | sl _ _ _ a1 c1 us1 _ _ _ _ _ h6 _ _ =>
  cases e2 with | sl _ _ _ a2 c2 us2 _ _ _ k5 _ _ _ _ =>
  obtain ⟨_, rfl, _⟩ := h6 (by simp)
  obtain ⟨_, rfl, _⟩ := k5 (.inl rfl)
  exact key rfl rfl (oC hu _ _ _ _ _)
 ·have e1 := hx.p_inv; have e2 := hy.p_inv; cases e1; cases e2; exact key rfl rfl (wI hu)
 ·have e1 := hx.p_inv; have e2 := hy.p_inv; cases e1; cases e2; exact key rfl rfl (Ao hu _ _ _)
 ·have e2 := hy.p_inv; cases hx; cases e2; exact key rfl rfl (Ao hu _ _ _)
theorem l6 {T : TypeId} {ad : Addr} {u : Value} (ht : aggB P T = some false) (h : w.cell? ad = some u) : (Go.Instr.loadAt T (.pointer (some ad))).run P w = .ok u w := by
 simp [Go.Instr.loadAt, Go.Instr.sureAddr, Go.loadVar, kA ht, h]
theorem lZ {T : TypeId} {ad : Addr} {sz : Nat} {us : Nat → Value} (ht : aggB P T = some true) (hs : (P.info? T).map (·.size) = some sz) (h : ∀ j, j < sz → w.cell? (ad.add j) = some (us j)) :
  (Go.Instr.loadAt T (.pointer (some ad))).run P w = .ok (.agg ((List.range sz).map us).toArray) w := by
 obtain ⟨i, hi, hsz⟩ := Option.map_eq_some_iff.1 hs
 simp [Go.Instr.loadAt, Go.Instr.sureAddr, Go.loadVar, kA ht, Go.sizeOf, Go.typeInfo, hi, hsz, Go.run_loadCells w ad sz us h]
theorem dZ {α : Type} {cs : List α} {n j : Nat} {c : α} (h : (cs.take n)[j]? = some c) : j < n ∧ cs[j]? = some c := by
 rw [List.getElem?_take] at h
 split at h
 ·exact ⟨‹_›, h⟩
 ·cases h
theorem dJ : ∀ {cs : List AV} {ps}, dH cs = some ps → cs = ps.map .p
 | [], ps, h => by simp only [dH, Option.some.injEq] at h; subst h; rfl
 | c :: cs, ps, h => by
  cases c <;> simp only [dH, reduceCtorEq] at h
  obtain ⟨qs, h1, rfl⟩ := Option.map_eq_some_iff.1 h
  rw [dJ h1]; rfl
theorem RelV.mkAgg {cs : List AV} {us : Array Value} (h1 : us.size = cs.length) (h2 : ∀ c ∈ cs, c.one = true) (h3 : ∀ j c, cs[j]? = some c → RelV N.fn w S μ H c (us.getD j undef)) :
  RelV N.fn w S μ H (Ab.mkAgg cs) (.agg us) := by
 unfold Ab.mkAgg
 split
 ·rename_i ps hp
  have e := dJ hp
  subst e
  refine .p _ _ (.agg ps us (by simpa using h1) (fun c hc => h2 (.p c) (List.mem_map_of_mem hc)) (fun j c hc => ?_))
  exact (h3 j (.p c) (by rw [List.getElem?_map, hc]; rfl)).p_inv
 ·exact .agg cs us h1 h2 h3
theorem pj {T : TypeId} {sz : Nat} {ag : Bool} {ad : Addr} {cs : List PV} {us : Nat → Value} {v : AV} (ht : aggB P T = some ag) (hs : (P.info? T).map (·.size) = some sz)
  (h1 : ∀ c ∈ cs, c.one = true) (h2 : ∀ j c, cs[j]? = some c → w.cell? (ad.add j) = some (us j)) (h3 : ∀ j c, cs[j]? = some c → RelP N.fn w S c (us j)) (hv : kp sz ag cs = some v) :
  ∃ u, (Go.Instr.loadAt T (.pointer (some ad))).run P w = .ok u w ∧ RelV N.fn w S μ H v u := by
 unfold kp at hv
 cases ag
 ·simp only [Bool.false_eq_true, if_false, Option.map_eq_some_iff] at hv
  obtain ⟨c, hc, rfl⟩ := hv
  cases cs with
  | nil => cases hc
  | cons x xs =>
   simp only [List.head?_cons, Option.some.injEq] at hc
   subst hc
   refine ⟨us 0, l6 ht ?_, .p _ _ (h3 0 x rfl)⟩
   simpa [Addr.add] using h2 0 x rfl
 ·simp only [if_true] at hv
  split at hv
  ·rename_i hl
   simp only [Option.some.injEq] at hv
   subst hv
   refine ⟨_, lZ (us := us) ht hs (fun j hj => h2 j _ (List.getElem?_eq_getElem (by omega))), .p _ _ (.agg _ _ ?_ (fun c hc => h1 c (List.mem_of_mem_take hc)) (fun j c hc => ?_))⟩
   ·simp [hl]
   ·obtain ⟨hj, hc'⟩ := dZ hc
    have := h3 j c hc'
    simpa [hj] using this
  ·cases hv
theorem xh {T : TypeId} {sz : Nat} {ag : Bool} {ad : Addr} {cs : List AV} {us : Nat → Value} {v : AV} (ht : aggB P T = some ag) (hs : (P.info? T).map (·.size) = some sz)
  (h1 : ∀ c ∈ cs, c.one = true) (h2 : ∀ j c, cs[j]? = some c → w.cell? (ad.add j) = some (us j)) (h3 : ∀ j c, cs[j]? = some c → RelV N.fn w S μ H c (us j)) (hv : takeA sz ag cs = some v) :
  ∃ u, (Go.Instr.loadAt T (.pointer (some ad))).run P w = .ok u w ∧ RelV N.fn w S μ H v u := by
 unfold takeA at hv
 cases ag
 ·simp only [Bool.false_eq_true, if_false] at hv
  cases cs with
  | nil => cases hv
  | cons x xs =>
   simp only [List.head?_cons, Option.some.injEq] at hv
   subst hv
   refine ⟨us 0, l6 ht ?_, h3 0 x rfl⟩
   simpa [Addr.add] using h2 0 x rfl
 ·simp only [if_true] at hv
  split at hv
  ·rename_i hl
   simp only [Option.some.injEq] at hv
   subst hv
   refine ⟨_, lZ (us := us) ht hs (fun j hj => h2 j _ (List.getElem?_eq_getElem (by omega))), RelV.mkAgg ?_ (fun c hc => h1 c (List.mem_of_mem_take hc)) (fun j c hc => ?_)⟩
   ·simp [hl]
   ·obtain ⟨hj, hc'⟩ := dZ hc
    have := h3 j c hc'
    simpa [hj] using this
  ·cases hv
theorem Rel.box_of (hr : Rel N.fn w S μ H) {id : Nat} {cs : List AV} (h : bN H id = some cs) : ∃ g arr t, μ id = .pointer (some ⟨g, 0, none⟩) ∧ w.heap[g]? = some (.cells arr t (0, 0)) ∧ arr.size = cs.length ∧ (∀ c ∈ cs, c.one = true) ∧
      ∀ j c, cs[j]? = some c → RelV N.fn w S μ H c (arr.getD j undef) := by
  unfold bN at h
  split at h
  · cases h
  · rename_i cs' hno hb
    simp only [Option.some.injEq] at h; subst h
    obtain ⟨g, h1, ⟨arr, t, h2⟩ | ⟨s, pos, rfl, _⟩ | ⟨es, arr, clock, rfl, _⟩⟩ := hr.blk id _ hb
    · exact ⟨g, arr, t, h1, h2⟩
    · exact (hno _ rfl).elim
    · exact (hno _ rfl).elim
  · cases h
theorem eF {id : Nat} {cs : List AV} (h : bN H id = some cs) : H[id]? = some (.box cs) := by
 unfold bN at h
 split at h
 ·cases h
 ·rename_i cs' _ hb
  simp only [Option.some.injEq] at h; subst h
  exact hb
 ·cases h
theorem aO {id n : Nat} {r : Nat × List PV} (h : rowOf H id n = some r) : ∃ f, H[id]? = some (.row f r.1 r.2) ∧ r.2.length = n := by
 unfold rowOf at h
 split at h
 ·rename_i f sz xs e
  split at h
  ·simp only [Option.some.injEq] at h; subst h; exact ⟨f, e, ‹_›⟩
  ·cases h
 ·cases h
theorem iH {v : Value} {sz n g cap : Nat} {us : List Value} (h : RowAt w v sz n us) (hv : v = .slice (some ⟨g, 0, none⟩) n cap) {j : Nat} (hj : j < n * sz) : w.cell? ⟨g, j, none⟩ = some (us.getD j undef) := by
 obtain ⟨hl, h⟩ := h
 rcases h with ⟨rfl, _⟩ | ⟨g', cap', cur, e, hv', _, hg, hn, _, hs, ht⟩
 ·simp at hj
 ·rw [hv] at hv'
  cases hv'
  obtain ⟨fr, hg, _⟩ := hg
  rw [Go.cell_of_row w g j cur e _ hg]
  have hc : j < cur.size := by rw [hs]; exact Nat.lt_of_lt_of_le hj (Nat.mul_le_mul_right _ hn)
  have : us[j]? = some cur[j] := by rw [← ht, List.getElem?_take, if_pos hj]; simp [hc]
  rw [Array.getElem?_eq_getElem hc]
  simp [List.getD, this]
theorem AH (hr : Rel N.fn w S μ H) {T : TypeId} {sz : Nat} {ag : Bool} {x : Value} {x' v : AV} (ht : aggB P T = some ag) (hs : (P.info? T).map (·.size) = some sz) (hx : RelV N.fn w S μ H x' x)
  (hv : eH H sz ag x' = some v) : ∃ u, (Go.Instr.loadAt T x).run P w = .ok u w ∧ RelV N.fn w S μ H v u := by
 unfold eH at hv
 split at hv
 ·cases hx with
  | p _ _ hx => cases hx with
   | ptr cells ad us h0 h1 h2 h3 h4 => exact pj ht hs h2 h3 h4 hv
 ·rename_i id off
  obtain ⟨cs, hb, hv⟩ := Option.bind_eq_some_iff.1 hv
  have hb0 := hb
  have hb := eF hb
  obtain ⟨g, rfl, hl, hg⟩ := hx.bx_inv
  obtain ⟨g', arr, t, e1, e2, e3, e4, e5⟩ := hr.box_of hb0
  rw [hg cs hb] at e1
  cases e1
  refine xh (us := fun j => arr.getD (off + j) undef) ht hs (fun c hc => e4 c (List.mem_of_mem_drop hc)) (fun j c hc => ?_) (fun j c hc => ?_) hv
  ·rw [List.getElem?_drop] at hc
   have hlt : off + j < arr.size := by rw [e3]; exact (List.getElem?_eq_some_iff.1 hc).1
   rw [Addr.add_lit, Go.cell_of_row w g _ arr t _ e2]
   simp [hlt]
  ·rw [List.getElem?_drop] at hc
   exact e5 _ c hc
 ·rename_i id n i off
  obtain ⟨r, hb, hv⟩ := Option.bind_eq_some_iff.1 hv
  obtain ⟨y, hy, hv⟩ := Option.bind_eq_some_iff.1 hv
  obtain ⟨f, hb, hn⟩ := aO hb
  have hi : i < n := by rw [← hn]; exact (List.getElem?_eq_some_iff.1 hy).1
  obtain ⟨hsz, _, us, e1, e2, e3, _⟩ := hr.blk id _ hb
  cases hx with
  | el _ _ _ _ _ hl h hone =>
  obtain ⟨_, h4⟩ := h f _ _ hb
  obtain ⟨g, cap, h5, rfl⟩ := (h4 hn.symm).1 hi
  rw [hn] at e1
  have hmem := List.mem_of_getElem? hy
  refine pj (us := fun j => us.getD (i * r.1 + (off + j)) undef) ht hs (fun c hc => (e2 y hmem).2 c (List.mem_of_mem_drop hc)) (fun j c hc => ?_) (fun j c hc => ?_) hv
  ·rw [List.getElem?_drop] at hc
   have hlt : off + j < r.1 := by rw [← (e2 y hmem).1]; exact (List.getElem?_eq_some_iff.1 hc).1
   rw [Addr.add_lit, Nat.add_assoc]
   refine iH e1 h5 ?_
   calc i * r.1 + (off + j) < i * r.1 + r.1 := by omega
    _ = (i + 1) * r.1 := by rw [Nat.add_mul, Nat.one_mul]
    _ ≤ n * r.1 := Nat.mul_le_mul_right _ hi
  ·rw [List.getElem?_drop] at hc
   exact e3 i y _ c hy hc
 ·cases hv
end
end Ab
namespace Ab
open Go (IntKind BinOp UnOp World Value Addr Obj undef maxLen Program TypeId Oper Op Operand Act Sem Next Result execOp Builtin)
section
variable {Γ : Ctx} {N : Names} {P : Program} {w : World} {S : Nat → Prop} {μ : Nat → Value} {H : Heap} {σ : Nat → AV} {a : Act}
theorem q_bin {op : BinOp} {T : TypeId} {x y : Operand} {x' y' v : AV} (hx : RelV N.fn w S μ H x' (a.eval x)) (hy : RelV N.fn w S μ H y' (a.eval y)) (hv : cR op x' y' = some v) :
  ∃ u,(do Go.eqGuard op T x y (a.eval x) (a.eval y); Go.binOp op T (a.eval x) (a.eval y)).run P w = .ok u w ∧ RelV N.fn w S μ H v u := by
 unfold cR at hv
 split at hv
 ·obtain ⟨r,hr,rfl⟩ := Option.map_eq_some_iff.1 hv
  unfold j9 at hr
  split at hr
  ·split at hr
   ·rename_i hk
    rw [hx.int_inv,hy.int_inv]
    obtain ⟨u,h1,h2⟩ := xD (P := P) (w := w) (N := N) (S := S) (T := T) hk hr
    refine ⟨u,?_,.p _ _ h2⟩
    have e : ∀ k k' m n,(Go.eqGuard op T x y (Value.int k m) (Value.int k' n)).run P w = .ok () w := by intro k k' m n; cases op <;> simp [Go.eqGuard]
    simp only [Go.Sem.run_bind,e,Go.Result.andThen_ok]
    exact h1
   ·cases hr
  ·rw [hx.str_inv,hy.str_inv]
   obtain ⟨u,h1,h2⟩ := wY (P := P) (w := w) (N := N) (S := S) (T := T) hr
   refine ⟨u,?_,.p _ _ h2⟩
   have e : ∀ s t,(Go.eqGuard op T x y (Value.string s) (Value.string t)).run P w = .ok () w := by intro s t; cases op <;> simp [Go.eqGuard]
   simp only [Go.Sem.run_bind,e,Go.Result.andThen_ok]
   exact h1
  ·cases hr
 ·cases hv
theorem q_un {op : UnOp} {x : Value} {x' v : AV} (hx : RelV N.fn w S μ H x' x) (hv : unA op x' = some v) : ∃ u,(Go.Op.unary op x).run P w = .ok u w ∧ RelV N.fn w S μ H v u := by
 unfold unA at hv
 split at hv
 ·obtain ⟨r,hr,rfl⟩ := Option.map_eq_some_iff.1 hv
  unfold unPV at hr
  split at hr
  ·simp only [Option.some.injEq] at hr; subst hr
   rw [hx.int_inv]
   exact ⟨_,by simp [Go.Op.unary,Go.Op.intArith]; rfl,.p _ _ (by simpa using RelP.int _ _)⟩
  ·simp only [Option.some.injEq] at hr; subst hr
   rw [hx.int_inv]
   exact ⟨_,by simp [Go.Op.unary,Go.Op.intBits],.p _ _ (.int _ _)⟩
  ·simp only [Option.some.injEq] at hr; subst hr
   rw [hx.bool_inv]
   exact ⟨_,by simp [Go.Op.unary],.p _ _ (.bool _)⟩
  ·cases hr
 ·cases hv
def intT (P : Program) (T : TypeId) : Option IntKind := match P.underlying T with | some (.int k) => some k | _ => none
def strT (P : Program) (T : TypeId) : Bool := match P.underlying T with | some .string => true | _ => false
def slT (P : Program) (T : TypeId) : Option TypeId := match P.underlying T with | some (.slice e) => some e | _ => none
theorem g9 {T k} (h : intT P T = some k) : P.underlying T = some (.int k) := by
 unfold intT at h; split at h
 ·simp only [Option.some.injEq] at h; subst h; assumption
 ·cases h
theorem cP {T} (h : strT P T = true) : P.underlying T = some .string := by
 unfold strT at h; split at h
 ·assumption
 ·cases h
theorem bn {T e} (h : slT P T = some e) : P.underlying T = some (.slice e) := by
 unfold slT at h; split at h
 ·simp only [Option.some.injEq] at h; subst h; assumption
 ·cases h
theorem zP {s d : TypeId} {k0 : IntKind} {x : Value} {x' v : AV} (hs : intT P s = some k0) (hd : strT P d = true) (hx : RelV N.fn w S μ H x' x) (hv : mK x' = some v) :
  ∃ u,(Go.convert s d x).run P w = .ok u w ∧ RelV N.fn w S μ H v u := by
 unfold mK at hv
 split at hv
 ·simp only [Option.some.injEq] at hv; subst hv
  rw [hx.int_inv]
  exact ⟨.string (Go.Utf8.encode _),by simp [Go.convert,Go.run_underlying (g9 hs),Go.run_underlying (cP hd),Go.Conv.intToString],.p _ _ (.str _)⟩
 ·cases hv
theorem q_conv {s d : TypeId} {k k0 : IntKind} {x : Value} {x' v : AV} (hs : intT P s = some k0) (hd : intT P d = some k) (hx : RelV N.fn w S μ H x' x) (hv : convA k x' = some v) :
  ∃ u,(Go.convert s d x).run P w = .ok u w ∧ RelV N.fn w S μ H v u := by
 unfold convA at hv
 split at hv
 ·simp only [Option.some.injEq] at hv; subst hv
  rw [hx.int_inv]
  exact ⟨_,by simp [Go.convert,Go.run_underlying (g9 hs),Go.run_underlying (g9 hd),Go.Conv.intToInt],.p _ _ (.int _ _)⟩
 ·cases hv
theorem q_same {s d : TypeId} {x : Value} {x' v : AV} (hs : strT P s = true) (hd : strT P d = true) (hx : RelV N.fn w S μ H x' x) (hv : sameA x' = some v) :
  ∃ u,(Go.convert s d x).run P w = .ok u w ∧ RelV N.fn w S μ H v u := by
 unfold sameA at hv
 split at hv
 ·simp only [Option.some.injEq] at hv; subst hv
  rw [hx.str_inv]
  exact ⟨_,by simp [Go.convert,Go.run_underlying (cP hs),Go.run_underlying (cP hd)],.p _ _ (.str _)⟩
 ·cases hv
theorem RelV.own_inv {ν id n u r} (h : RelV ν w S μ H (.own id n) u) (hr : rowOf H id n = some r) : u = μ id := by
 obtain ⟨f,h1,h2⟩ := aO hr
 cases h with | own _ _ _ _ h _ => exact (h f _ _ h1).2 h2.symm
theorem q_len {T : TypeId} {x : Value} {x' : AV} {n : Nat} {t0 : TypeId} {s : Bool} (hr : Rel N.fn w S μ H) (hT : if s then strT P T = true else (slT P T).isSome = true) (hx : RelV N.fn w S μ H x' x)
  (hv : asLen H s x' = some n) : (Go.Builtin.len_ #[T] t0 #[x]).run P w = .ok (.int .i64 n) w := by
 unfold asLen at hv
 split at hv
 ·simp only [Option.some.injEq] at hv; subst hv
  rw [hx.str_inv]
  simp only [if_true] at hT
  simp [Go.Builtin.len_,Go.run_underlying (cP hT),Go.goInt,size_mk]
 ·simp only [Option.some.injEq] at hv; subst hv
  simp only [Bool.false_eq_true,if_false] at hT
  obtain ⟨e,he⟩ := Option.isSome_iff_exists.1 hT
  have e1 := hx.p_inv
  cases e1
  simp [Go.Builtin.len_,Go.run_underlying (bn he),Go.goInt]
 ·rename_i id m
  obtain ⟨r,hb,he⟩ := Option.map_eq_some_iff.1 hv
  subst he
  simp only [Bool.false_eq_true,if_false] at hT
  obtain ⟨e,he⟩ := Option.isSome_iff_exists.1 hT
  rw [hx.own_inv hb]
  obtain ⟨f,h1,h2⟩ := aO hb
  obtain ⟨_,_,us,h3,_⟩ := hr.blk id _ h1
  obtain ⟨_,h3⟩ := h3
  rw [h2] at h3
  rcases h3 with ⟨rfl,a0,h4⟩ | ⟨g,cap,cur,e',h4,_⟩ <;> rw [h4] <;> simp [Go.Builtin.len_,Go.run_underlying (bn he),Go.goInt]
 ·cases hv
theorem q_idx {T : TypeId} {x i : Value} {x' i' v : AV} (hT : strT P T = true) (hx : RelV N.fn w S μ H x' x) (hi : RelV N.fn w S μ H i' i) (hv : idxA x' i' = some v) :
  ∃ u,(Go.Instr.index T x i).run P w = .ok u w ∧ RelV N.fn w S μ H v u := by
 unfold idxA at hv
 split at hv
 ·split at hv
  ·rename_i s k i hi0
   obtain ⟨b,hb,rfl⟩ := Option.map_eq_some_iff.1 hv
   rw [hx.str_inv,hi.int_inv]
   have hlt : i.toNat < s.length := (List.getElem?_eq_some_iff.1 hb).1
   have e : (ByteArray.mk s.toArray)[i.toNat]? = some b := by
    rw [getElem?_pos _ _ (by rw [size_mk]; exact hlt)]
    have : s[i.toNat] = b := (List.getElem?_eq_some_iff.1 hb).2
    rw [← this]
    rfl
   exact ⟨_,by simp [Go.Instr.index,Go.asIntOf,Go.run_underlying (cP hT),hi0,e],.p _ _ (.int _ _)⟩
  ·cases hv
 ·cases hv
theorem yZ {α : Type} {l : List α} {j : Nat} {d : α} : l.toArray.getD j d = l.getD j d := by
 simp [List.getD]
theorem lP {us : Array Value} {i j n : Nat} (hj : j < n) (h : i + n ≤ us.size) : (us.extract i (i + n)).getD j undef = us.getD (i + j) undef := by
 have h1 : j < (us.extract i (i + n)).size := by simp; omega
 rw [Array.getD_eq_getD_getElem?,Array.getD_eq_getD_getElem?,Array.getElem?_extract]
 rw [if_pos (by omega)]
theorem oW {T : TypeId} {sz off : Nat} {ag : Bool} {cs : List PV} {us : Array Value} {v : AV} (ht : aggB P T = some ag) (hs : (P.info? T).map (·.size) = some sz)
  (h1 : us.size = cs.length) (h2 : ∀ c ∈ cs,c.one = true) (h3 : ∀ j c,cs[j]? = some c → RelP N.fn w S c (us.getD j undef)) (hv : kp sz ag (cs.drop off) = some v) :
  ∃ u,(Go.part T us off).run P w = .ok u w ∧ RelV N.fn w S μ H v u := by
 unfold kp at hv
 cases ag
 ·simp only [Bool.false_eq_true,if_false,Option.map_eq_some_iff] at hv
  obtain ⟨c,hc,rfl⟩ := hv
  rw [List.head?_drop] at hc
  have hlt : off < us.size := by rw [h1]; exact (List.getElem?_eq_some_iff.1 hc).1
  exact ⟨_,im ht hlt,.p _ _ (h3 _ _ hc)⟩
 ·simp only [if_true] at hv
  split at hv
  ·rename_i hl
   simp only [Option.some.injEq] at hv
   subst hv
   rw [List.length_drop] at hl
   refine ⟨_,l7 ht hs,.p _ _ (.agg _ _ ?_ (fun c hc => h2 c (List.mem_of_mem_drop (List.mem_of_mem_take hc))) (fun j c hc => ?_))⟩
   ·simp only [Array.size_extract,List.length_take,List.length_drop]
    omega
   ·obtain ⟨hj,hc'⟩ := dZ hc
    rw [List.getElem?_drop] at hc'
    by_cases hle : off + sz ≤ us.size
    ·rw [lP hj hle]; exact h3 _ _ hc'
    ·have : off + j < us.size := by rw [h1]; exact (List.getElem?_eq_some_iff.1 hc').1
     omega
  ·cases hv
theorem x7 {T : TypeId} {sz off : Nat} {ag : Bool} {cs : List AV} {us : Array Value} {v : AV} (ht : aggB P T = some ag) (hs : (P.info? T).map (·.size) = some sz)
  (h1 : us.size = cs.length) (h2 : ∀ c ∈ cs,c.one = true) (h3 : ∀ j c,cs[j]? = some c → RelV N.fn w S μ H c (us.getD j undef)) (hv : takeA sz ag (cs.drop off) = some v) :
  ∃ u,(Go.part T us off).run P w = .ok u w ∧ RelV N.fn w S μ H v u := by
 unfold takeA at hv
 cases ag
 ·simp only [Bool.false_eq_true,if_false] at hv
  rw [List.head?_drop] at hv
  have hlt : off < us.size := by rw [h1]; exact (List.getElem?_eq_some_iff.1 hv).1
  exact ⟨_,im ht hlt,h3 _ _ hv⟩
 ·simp only [if_true] at hv
  split at hv
  ·rename_i hl
   simp only [Option.some.injEq] at hv
   subst hv
   rw [List.length_drop] at hl
   refine ⟨_,l7 ht hs,RelV.mkAgg ?_ (fun c hc => h2 c (List.mem_of_mem_drop (List.mem_of_mem_take hc))) (fun j c hc => ?_)⟩
   ·simp only [Array.size_extract,List.length_take,List.length_drop]
    omega
   ·obtain ⟨hj,hc'⟩ := dZ hc
    rw [List.getElem?_drop] at hc'
    by_cases hle : off + sz ≤ us.size
    ·rw [lP hj hle]; exact h3 _ _ hc'
    ·have : off + j < us.size := by rw [h1]; exact (List.getElem?_eq_some_iff.1 hc').1
     omega
  ·cases hv
def arrT (P : Program) (T : TypeId) : Option (Nat × TypeId) := match P.underlying T with | some (.array n e) => some (n,e) | _ => none
theorem sZ {T n e} (h : arrT P T = some (n,e)) : P.underlying T = some (.array n e) := by
 unfold arrT at h; split at h
 ·simp only [Option.some.injEq,Prod.mk.injEq] at h; obtain ⟨rfl,rfl⟩ := h; assumption
 ·cases h
theorem run_sizeOf {T sz} (hs : (P.info? T).map (·.size) = some sz) : (Go.sizeOf T).run P w = .ok sz w := by
 obtain ⟨i,hi,hsz⟩ := Option.map_eq_some_iff.1 hs
 simp [Go.sizeOf,Go.typeInfo,hi,hsz]
theorem q_aidx {T e : TypeId} {sz n : Nat} {ag : Bool} {x i : Value} {x' i' v : AV} (hT : arrT P T = some (n,e)) (ht : aggB P e = some ag) (hs : (P.info? e).map (·.size) = some sz)
  (hx : RelV N.fn w S μ H x' x) (hi : RelV N.fn w S μ H i' i) (hv : aidxA sz ag n x' i' = some v) :
  ∃ u,(Go.Instr.index T x i).run P w = .ok u w ∧ RelV N.fn w S μ H v u := by
 unfold aidxA at hv
 split at hv
 ·rename_i cs k i
  split at hv
  ·rename_i hc
   obtain ⟨hi0,hin,hlen⟩ := hc
   rw [hi.int_inv]
   cases hx with
   | p _ _ hx => cases hx with
    | agg _ us h1 h2 h3 =>
    obtain ⟨u,h4,h5⟩ := oW (P := P) (N := N) (w := w) (S := S) (μ := μ) (H := H) ht hs h1 h2 h3 hv
    refine ⟨u,?_,h5⟩
    simp [Go.Instr.index,Go.asIntOf,Go.run_underlying (sZ hT),hi0,hin,run_sizeOf hs,h4]
  ·cases hv
 ·cases hv
def kO (P : Program) (T : TypeId) : Option (Array Go.Field) := match P.underlying T with | some (.struct fs) => some fs | _ => none
theorem ie {T fs} (h : kO P T = some fs) : P.underlying T = some (.struct fs) := by
 unfold kO at h; split at h
 ·simp only [Option.some.injEq] at h; subst h; assumption
 ·cases h
theorem q_fld {T : TypeId} {fs : Array Go.Field} {f : Go.Field} {k off sz : Nat} {ag : Bool} {x : Value} {x' v : AV} (hT : kO P T = some fs) (hf : fs[k]? = some f) (ho : f.offset = off)
  (ht : aggB P f.type = some ag) (hs : (P.info? f.type).map (·.size) = some sz) (hx : RelV N.fn w S μ H x' x) (hv : fldA off sz ag x' = some v) :
  ∃ u,(Go.Instr.field T x k).run P w = .ok u w ∧ RelV N.fn w S μ H v u := by
 subst ho
 unfold fldA at hv
 split at hv
 ·cases hx with
  | p _ _ hx => cases hx with
   | agg _ us h1 h2 h3 =>
   obtain ⟨u,h4,h5⟩ := oW (P := P) (N := N) (w := w) (S := S) (μ := μ) (H := H) ht hs h1 h2 h3 hv
   exact ⟨u,by simp [Go.Instr.field,Go.run_underlying (ie hT),hf,Go.asAgg,h4],h5⟩
 ·cases hx with
  | agg _ us h1 h2 h3 =>
  obtain ⟨u,h4,h5⟩ := x7 (P := P) (N := N) (w := w) (S := S) (μ := μ) (H := H) ht hs h1 h2 h3 hv
  exact ⟨u,by simp [Go.Instr.field,Go.run_underlying (ie hT),hf,Go.asAgg,h4],h5⟩
 ·cases hv
theorem lQ {ad : Addr} {cs : List PV} {us : Nat → Value} {off : Nat} (h0 : off < cs.length) (h1 : S ad.block) (h2 : ∀ c ∈ cs,c.one = true) (h3 : ∀ j c,cs[j]? = some c → w.cell? (ad.add j) = some (us j))
  (h4 : ∀ j c,cs[j]? = some c → RelP N.fn w S c (us j)) : RelP N.fn w S (.ptr (cs.drop off)) (.pointer (some (ad.add off))) := by
 refine .ptr _ _ (fun j => us (off + j)) (fun e => ?_) (by rw [block_add]; exact h1) (fun c hc => h2 c (List.mem_of_mem_drop hc)) (fun j c hc => ?_) (fun j c hc => ?_)
 ·rw [List.drop_eq_nil_iff] at e; omega
 ·rw [List.getElem?_drop] at hc; rw [add_add]; exact h3 _ _ hc
 ·rw [List.getElem?_drop] at hc; exact h4 _ _ hc
theorem q_faddr {T : TypeId} {fs : Array Go.Field} {f : Go.Field} {k off : Nat} {x : Value} {x' v : AV} (hT : kO P T = some fs) (hf : fs[k]? = some f) (ho : f.offset = off)
  (hs : (P.info? f.type).any (·.size != 0) = true) (hx : RelV N.fn w S μ H x' x) (hv : ju H off x' = some v) :
  ∃ u,(Go.Instr.fieldAt T x k).run P w = .ok u w ∧ RelV N.fn w S μ H v u := by
 subst ho
 obtain ⟨i,hi,hsz⟩ : ∃ i,P.info? f.type = some i ∧ ¬ i.size = 0 := by
  cases h : P.info? f.type with
  | none => simp [h] at hs
  | some i => simp [h] at hs; exact ⟨i,rfl,hs⟩
 have key : ∀ ad : Addr,(Go.Instr.fieldAt T (.pointer (some ad)) k).run P w = .ok (.pointer (some (ad.add f.offset))) w := by
  intro ad
  simp [Go.Instr.fieldAt,Go.run_underlying (ie hT),hf,Go.Instr.sureAddr,Go.fieldPlace,Go.sizeOf,Go.typeInfo,hi,hsz]
 unfold ju at hv
 split at hv
 ·split at hv
  ·rename_i hl
   simp only [Option.some.injEq] at hv; subst hv
   cases hx with
   | p _ _ hx => cases hx with
    | ptr cells ad us h0 h1 h2 h3 h4 => exact ⟨_,key ad,.p _ _ (lQ hl h1 h2 h3 h4)⟩
  ·cases hv
 ·simp only [Option.some.injEq] at hv; subst hv
  obtain ⟨g,rfl,hl,hg⟩ := hx.bx_inv
  exact ⟨_,key _,.bx _ _ g _ hl hg (by rw [Addr.add_lit])⟩
 ·rename_i id n i o
  unfold ifB at hv
  split at hv
  ·rename_i hok
   simp only [Option.some.injEq] at hv; subst hv
   obtain ⟨f',sz,xs,g,cap,h1,h2,h3,h4,rfl⟩ := hx.el_inv hok
   refine ⟨_,key _,.el _ _ _ _ _ (List.getElem?_eq_some_iff.1 h1).1 (fun f2 sz2 xs2 e => ?_) rfl⟩
   rw [h1] at e; cases e
   exact ⟨Nat.le_of_eq h2.symm,fun _ => ⟨fun _ => ⟨g,cap,h4,by rw [Addr.add_lit,Nat.add_assoc]⟩,fun hh => by omega⟩⟩
  ·cases hv
 ·cases hv
theorem q_iaddr {T e : TypeId} {sz : Nat} {x i : Value} {x' i' v : AV} (h0sz : 0 < sz) (hr : Rel N.fn w S μ H) (hT : slT P T = some e) (hs : (P.info? e).map (·.size) = some sz)
  (hx : RelV N.fn w S μ H x' x) (hi : RelV N.fn w S μ H i' i) (hv : iaddrA H sz x' i' = some v) :
  ∃ u,(Go.Instr.indexAt T x i).run P w = .ok u w ∧ RelV N.fn w S μ H v u := by
 have key : ∀ (ad : Addr) (n cap : Nat) (k : IntKind) (i : Int),0 ≤ i → i < n → (Go.Instr.indexAt T (.slice (some ad) n cap) (.int k i)).run P w = .ok (.pointer (some (ad.add (i.toNat * sz)))) w := by
  intro ad n cap k i h0 h1
  simp [Go.Instr.indexAt,Go.asIntOf,Go.run_underlying (bn hT),h0,h1,run_sizeOf hs]
 unfold iaddrA at hv
 split at hv
 ·rename_i k sz' xs k i
  split at hv
  ·rename_i hc
   obtain ⟨rfl,h0⟩ := hc
   obtain ⟨y,hy,rfl⟩ := Option.map_eq_some_iff.1 hv
   rw [hi.int_inv]
   have hlt := (List.getElem?_eq_some_iff.1 hy).1
   cases hx with
   | p _ _ hx => cases hx with
    | sl _ _ _ a cap us h1 h2 h3 h4 h5 h6 h7 h8 =>
    obtain ⟨ad,rfl,hS⟩ := h6 (by rintro rfl; simp at hlt)
    refine ⟨_,key ad _ cap k i h0 (by omega),.p _ _ ?_⟩
    have hm := h3 y (List.mem_of_getElem? hy)
    refine .ptr _ _ (fun j => us i.toNat j) ?_ (by rw [block_add]; exact hS) hm.2 (fun j c hc => ?_) (fun j c hc => h8 _ _ _ _ hy hc)
    ·intro e; have := hm.1; rw [e] at this; simp at this; omega
    ·rw [add_add]; exact h7 ad rfl _ _ _ _ hy hc
  ·cases hv
 ·rename_i id n k i
  obtain ⟨⟨sz',xs⟩,hb,hv⟩ := Option.bind_eq_some_iff.1 hv
  simp only [Option.ite_none_right_eq_some,Option.some.injEq] at hv
  obtain ⟨⟨rfl,h0,h1⟩,rfl⟩ := hv
  have hu := hx.own_inv hb
  obtain ⟨f,h2,h3⟩ := aO hb
  obtain ⟨_,_,us,h4,_⟩ := hr.blk id _ h2
  obtain ⟨_,h5⟩ := h4
  rw [h3] at h5
  rw [hi.int_inv,hu]
  rcases h5 with ⟨rfl,_⟩ | ⟨g,cap,cur,e',h6,_⟩
  ·omega
  ·rw [h6]
   refine ⟨_,key _ _ _ _ _ h0 h1,.el _ _ _ _ _ (List.getElem?_eq_some_iff.1 h2).1 (fun f2 sz2 xs2 e => ?_) rfl⟩
   rw [h2] at e; cases e
   exact ⟨Nat.le_of_eq h3.symm,fun _ => ⟨fun _ => ⟨g,cap,h6,by rw [Addr.add_lit]; simp⟩,fun hh => by omega⟩⟩
 ·cases hv
theorem q_iaddrA {T e : TypeId} {sz n : Nat} {x i : Value} {x' i' v : AV} (hT : arrT P T = some (n,e)) (hs : (P.info? e).map (·.size) = some sz)
  (hx : RelV N.fn w S μ H x' x) (hi : RelV N.fn w S μ H i' i) (hv : uB sz n x' i' = some v) :
  ∃ u,(Go.Instr.indexAt T x i).run P w = .ok u w ∧ RelV N.fn w S μ H v u := by
 have key : ∀ (ad : Addr) (k : IntKind) (i : Int),0 ≤ i → i < n → (Go.Instr.indexAt T (.pointer (some ad)) (.int k i)).run P w = .ok (.pointer (some (ad.add (i.toNat * sz)))) w := by
  intro ad k i h0 h1
  simp [Go.Instr.indexAt,Go.asIntOf,Go.Instr.sureAddr,Go.run_underlying (sZ hT),h0,h1,run_sizeOf hs]
 unfold uB at hv
 split at hv
 ·simp only [Option.ite_none_right_eq_some,Option.some.injEq] at hv
  obtain ⟨⟨h0,h1,h2⟩,rfl⟩ := hv
  rw [hi.int_inv]
  cases hx with
  | p _ _ hx => cases hx with
   | ptr cells ad us _ k1 k2 k3 k4 => exact ⟨_,key ad _ _ h0 h1,.p _ _ (lQ h2 k1 k2 k3 k4)⟩
 ·simp only [Option.ite_none_right_eq_some,Option.some.injEq] at hv
  obtain ⟨⟨h0,h1⟩,rfl⟩ := hv
  rw [hi.int_inv]
  obtain ⟨g,rfl,hl,hg⟩ := hx.bx_inv
  exact ⟨_,key _ _ _ h0 h1,.bx _ _ g _ hl hg (by rw [Addr.add_lit])⟩
 ·cases hv
def RelO (ν : Nat → Nat) (w : World) (S : Nat → Prop) (μ : Nat → Value) (H : Heap) (o : Option AV) (u : Option Value) : Prop :=
 match o,u with | none,none => True | some x,some y => RelV ν w S μ H x y | _,_ => False
theorem cx {sl : Bool} {n cap l h : Nat} {lo hi : Option AV} {lo' hi' : Option Value} (hlo : RelO N.fn w S μ H lo lo') (hhi : RelO N.fn w S μ H hi hi') (hc : n ≤ cap)
  (h1 : bound n n hi = some h) (h2 : bound h 0 lo = some l) : (Go.Instr.sliceBounds sl n cap lo' hi' none).run P w = .ok (l,h,cap) w ∧ l ≤ h ∧ h ≤ n := by
 have bnd : ∀ {m d : Nat} {o : Option AV} {r : Nat},bound m d o = some r → (o = none → r = d) ∧ (o ≠ none → r ≤ m) := by
  intro m d o r hb
  unfold bound at hb
  split at hb
  ·exact ⟨fun _ => by simpa using hb.symm,fun h => by simp at h⟩
  ·simp only [Option.ite_none_right_eq_some,Option.some.injEq] at hb
   obtain ⟨⟨h0,h1⟩,rfl⟩ := hb
   exact ⟨fun h => by simp at h,fun _ => by omega⟩
  ·cases hb
 have key : ∀ {m m' d : Nat} {o : Option AV} {y : Value} {r : Nat} (code : Go.BoundsCode),m ≤ m' → RelO N.fn w S μ H o (some y) → bound m d o = some r → (Go.Instr.sliceBound y m' code).run P w = .ok r w := by
  intro m m' d o y r code hm hr hb
  unfold bound at hb
  split at hb
  ·exact hr.elim
  ·simp only [Option.ite_none_right_eq_some,Option.some.injEq] at hb
   obtain ⟨⟨h0,h1⟩,rfl⟩ := hb
   rw [RelV.int_inv hr]
   have h2 : (‹Int› : Int) ≤ m' := by omega
   simp [Go.Instr.sliceBound,Go.asIntOf,h0,h2]
  ·cases hb
 have hle : h ≤ n := by
  cases hi with
  | none => exact Nat.le_of_eq ((bnd h1).1 rfl)
  | some x => exact (bnd h1).2 (by simp)
 have lle : l ≤ h := by
  cases lo with
  | none => rw [(bnd h2).1 rfl]; exact Nat.zero_le _
  | some x => exact (bnd h2).2 (by simp)
 refine ⟨?_,lle,hle⟩
 have e1 : ∀ y,hi' = some y → (Go.Instr.sliceBound y cap (if sl = true then .sliceAcap else .sliceAlen)).run P w = .ok h w := fun y hy => by subst hy; exact key _ hc hhi h1
 have e2 : ∀ y,lo' = some y → (Go.Instr.sliceBound y h .sliceB).run P w = .ok l w := fun y hy => by subst hy; exact key _ (Nat.le_refl _) hlo h2
 have e3 : hi' = none → h = n := by
  rintro rfl
  cases hi with
  | none => exact (bnd h1).1 rfl
  | some x => exact hhi.elim
 have e4 : lo' = none → l = 0 := by
  rintro rfl
  cases lo with
  | none => exact (bnd h2).1 rfl
  | some x => exact hlo.elim
 cases hi' with
 | none =>
  have := e3 rfl
  subst this
  cases lo' with
  | none => have := e4 rfl; subst this; simp [Go.Instr.sliceBounds]
  | some y => simp [Go.Instr.sliceBounds,e2 y rfl]
 | some z =>
  cases lo' with
  | none => have := e4 rfl; subst this; simp [Go.Instr.sliceBounds,e1 z rfl]
  | some y => simp [Go.Instr.sliceBounds,e1 z rfl,e2 y rfl]
theorem xg (s : List UInt8) (l h : Nat) : (ByteArray.mk s.toArray).extract l h = ⟨((s.take h).drop l).toArray⟩ := by
 apply ByteArray.ext
 simp [ByteArray.data_extract,List.extract_eq_take_drop,List.drop_take]
theorem q_sliceS {T : TypeId} {x : Value} {x' v : AV} {lo hi : Option AV} {lo' hi' : Option Value} (hT : strT P T = true) (hx : RelV N.fn w S μ H x' x) (hlo : RelO N.fn w S μ H lo lo') (hhi : RelO N.fn w S μ H hi hi')
  (hv : dv x' lo hi = some v) : ∃ u,(Go.Instr.sliceAt T x lo' hi' none).run P w = .ok u w ∧ RelV N.fn w S μ H v u := by
 unfold dv at hv
 split at hv
 ·rename_i s
  obtain ⟨h,h1,hv⟩ := Option.bind_eq_some_iff.1 hv
  obtain ⟨l,h2,rfl⟩ := Option.map_eq_some_iff.1 hv
  obtain ⟨h3,h4,h5⟩ := cx (P := P) (sl := false) (cap := s.length) hlo hhi (Nat.le_refl _) h1 h2
  rw [hx.str_inv]
  refine ⟨.string ⟨((s.take h).drop l).toArray⟩,?_,.p _ _ (.str _)⟩
  simp [Go.Instr.sliceAt,Go.Instr.slice,Go.run_underlying (cP hT),size_mk,h3,xg]
 ·cases hv
theorem RelP.piece {xs : List PV} {k : SK} {sz cap l h : Nat} {a0 : Option Addr} (hx : RelP N.fn w S (.sl k sz xs) (.slice a0 xs.length cap)) (h4 : l ≤ h) (h5 : h ≤ xs.length) :
  RelP N.fn w S (.sl k.cut sz ((xs.take h).drop l)) (.slice (if cap = l then a0 else a0.map (·.add (l * sz))) (h - l) (cap - l)) := by
 generalize hv : Value.slice a0 xs.length cap = v0 at hx
 cases hx with
 | sl _ _ _ a1 cap1 us h1 h2 h3 hn4 hn5 h6 h7 h8 =>
 cases hv
 have el : ((xs.take h).drop l).length = h - l := by simp; omega
 have get : ∀ i x,((xs.take h).drop l)[i]? = some x → xs[l + i]? = some x ∧ l + i < h := by
  intro i x hx
  rw [List.getElem?_drop] at hx
  obtain ⟨a,b⟩ := dZ hx
  exact ⟨b,a⟩
 rw [← el]
 refine .sl _ _ _ _ _ (fun i j => us (l + i) j) (by omega) (by omega) (fun x hx => h3 x (List.mem_of_mem_take (List.mem_of_mem_drop hx)))
  (fun hk => by
   have hk' : k = .nil ∨ a0 = none := by
    rcases hk with hk | hk
    ·left; cases k <;> simp [SK.cut] at hk ⊢
    ·right; split at hk
     ·exact hk
     ·simpa using hk
   obtain ⟨g1,g2,g3⟩ := hn4 hk'
   subst g1 g2 g3
   simp)
  (fun hk => by
   have hk' : k = .tight ∨ k = .mem := by cases k <;> simp [SK.cut] at hk ⊢
   refine ⟨?_,fun hk => by cases k <;> simp [SK.cut] at hk⟩
   have := (hn5 hk').1
   split
   ·exact this
   ·simpa using this) (fun hne => ?_) (fun ad had i x j c hx hc => ?_) (fun i x j c hx hc => h8 _ _ _ _ (get i x hx).1 hc)
 ·have hlt : l < h := by
   rcases Nat.lt_or_ge l h with h | h
   ·exact h
   ·exfalso; apply hne; apply List.eq_nil_of_length_eq_zero; omega
  obtain ⟨ad,rfl,hS⟩ := h6 (by rintro rfl; simp at h5; omega)
  rw [if_neg (by omega)]
  exact ⟨_,rfl,by rw [block_add]; exact hS⟩
 ·obtain ⟨hx1,hx2⟩ := get i x hx
  have hlen : l + i < xs.length := (List.getElem?_eq_some_iff.1 hx1).1
  obtain ⟨ad0,rfl,_⟩ := h6 (by rintro rfl; simp at hlen)
  rw [if_neg (by omega)] at had
  simp only [Option.map_some,Option.some.injEq] at had
  subst had
  rw [add_add,← Nat.add_assoc,← Nat.add_mul]
  exact h7 ad0 rfl _ _ _ _ hx1 hc
theorem tX {T e : TypeId} {sz : Nat} {x : Value} {x' v : AV} {lo hi : Option AV} {lo' hi' : Option Value} (hT : slT P T = some e) (hs : (P.info? e).map (·.size) = some sz)
  (hx : RelV N.fn w S μ H x' x) (hlo : RelO N.fn w S μ H lo lo') (hhi : RelO N.fn w S μ H hi hi') (hv : cQ sz x' lo hi = some v) :
  ∃ u,(Go.Instr.sliceAt T x lo' hi' none).run P w = .ok u w ∧ RelV N.fn w S μ H v u := by
 unfold cQ at hv
 split at hv
 ·rename_i k sz' xs
  simp only [Option.ite_none_right_eq_some] at hv
  obtain ⟨rfl,hv⟩ := hv
  obtain ⟨h,h1,hv⟩ := Option.bind_eq_some_iff.1 hv
  obtain ⟨l,h2,rfl⟩ := Option.map_eq_some_iff.1 hv
  have hx := hx.p_inv
  have hx2 := hx
  cases hx with
  | sl _ _ _ a0 cap us k1 k2 _ _ _ _ _ _ =>
  obtain ⟨h3,h4,h5⟩ := cx (P := P) (sl := true) (cap := cap) hlo hhi k1 h1 h2
  refine ⟨_,?_,.p _ _ (hx2.piece h4 h5)⟩
  simp [Go.Instr.sliceAt,Go.Instr.slice,Go.run_underlying (bn hT),h3,run_sizeOf hs]
 ·cases hv
theorem q_ext {x : Value} {x' v : AV} {i : Nat} (hx : RelV N.fn w S μ H x' x) (hv : extA i x' = some v) : ∃ u,(Go.Instr.extract x i).run P w = .ok u w ∧ RelV N.fn w S μ H v u := by
 unfold extA at hv
 split at hv
 ·cases hx with
  | tup _ us h1 h2 =>
  have hlt : i < us.size := by rw [h1]; exact (List.getElem?_eq_some_iff.1 hv).1
  exact ⟨us.getD i undef,by simp [Go.Instr.extract,hlt],h2 _ _ hv⟩
 ·cases hv
end
end Ab
