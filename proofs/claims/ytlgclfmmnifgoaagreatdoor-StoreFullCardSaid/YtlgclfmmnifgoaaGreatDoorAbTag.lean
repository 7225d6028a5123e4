import Derived.Test.YtlgclfmmnifgoaaGreatDoorAbCore
import Derived.Attr
namespace Ab
theorem ifB_some {α : Type} {b : Bool} {x : Option α} {v : α} : ifB b x = some v ↔ b = true ∧ x = some v := by cases b <;> simp [ifB]
theorem oV {c c' : jS} (h : gP c c') {H f as r} (e : mi c H f as = some r) : mi c' H f as = some r := by
 unfold mi at *
 simp only [Option.bind_eq_some_iff] at *
 obtain ⟨fc,h1,ps,h2,r',h3,h4⟩ := e
 exact ⟨fc,h1,ps,h2,r',h _ _ _ _ h3,h4⟩
theorem tP {c c' : jS} (h : gP c c') {H f as r} (e : ma c H f as = some r) : ma c' H f as = some r := by
 unfold ma at *
 simp only [Option.bind_eq_some_iff] at *
 obtain ⟨fc,h1,ps,h2,r',h3,h4⟩ := e
 exact ⟨fc,h1,ps,h2,r',h _ _ _ _ h3,h4⟩
theorem mR {Γ : Ctx} {c c' : jS} (h : gP c c') {σ H q v} (e : evQ Γ c σ H q = some v) : evQ Γ c' σ H q = some v := by
 cases q
 case call f args =>
  simp only [evQ,Option.bind_eq_some_iff] at *
  obtain ⟨rs,h1,h2⟩ := e
  exact ⟨rs,oV h h1,h2⟩
 case callr f args =>
  simp only [evQ,Option.map_eq_some_iff] at *
  obtain ⟨rs,h1,h2⟩ := e
  exact ⟨rs,tP h h1,h2⟩
 all_goals exact e
theorem pb {Γ : Ctx} {c c' : jS} (h : gP c c') {H f as r} (e : oO Γ c H f as = some r) : oO Γ c' H f as = some r := by
 unfold oO at *
 simp only [Option.bind_eq_some_iff,ifB_some] at *
 obtain ⟨fc,h1,hb,as',h2,HL,h3,r',h4,h5⟩ := e
 exact ⟨fc,h1,hb,as',h2,HL,h3,r',h _ _ _ _ h4,h5⟩
theorem xv {c c' : jS} (h : gP c c') {H f as r} (e : AL c H f as = some r) : AL c' H f as = some r := by
 unfold AL at *
 simp only [Option.bind_eq_some_iff] at *
 obtain ⟨fc,h1,q,h2,r',h4,h5⟩ := e
 exact ⟨fc,h1,q,h2,r',h _ _ _ _ h4,h5⟩
theorem uO {Γ : Ctx} {c c' : jS} (h : gP c c') {σ H x v} (e : evX Γ c σ H x = some v) : evX Γ c' σ H x = some v := by
 cases x
 case callf f args =>
  simp only [evX,ifB_some,Option.map_eq_some_iff] at *
  obtain ⟨hc,rs,h1,h2⟩ := e
  exact ⟨hc,rs,oV h h1,h2⟩
 case calls f args =>
  simp only [evX,Option.map_eq_some_iff] at *
  obtain ⟨r,h1,h2⟩ := e
  exact ⟨r,pb h h1,h2⟩
 case callz f args =>
  simp only [evX,Option.map_eq_some_iff] at *
  obtain ⟨r,h1,h2⟩ := e
  exact ⟨r,xv h h1,h2⟩
 case callw f args =>
  simp only [evX,kZ,Option.map_eq_some_iff,Option.bind_eq_some_iff,ifB_some] at *
  obtain ⟨r,⟨fc,hf,hk,h1⟩,h2⟩ := e
  exact ⟨r,⟨fc,hf,hk,h _ _ _ _ h1⟩,h2⟩
 case callwk f args ks =>
  simp only [evX,jF,kZ,Option.map_eq_some_iff,Option.bind_eq_some_iff,ifB_some] at *
  obtain ⟨r,⟨r',⟨fc,hf,hk,h1⟩,h3,h4⟩,h2⟩ := e
  exact ⟨r,⟨r',⟨fc,hf,hk,h _ _ _ _ h1⟩,h3,h4⟩,h2⟩
 case callwr f args =>
  simp only [evX,lp,kZ,Option.map_eq_some_iff,Option.bind_eq_some_iff,ifB_some] at *
  obtain ⟨r,⟨r',⟨fc,hf,hk,h1⟩,h3,h4⟩,h2⟩ := e
  exact ⟨r,⟨r',⟨fc,hf,hk,h _ _ _ _ h1⟩,h3,h4⟩,h2⟩
 case callk f args ks =>
  simp only [evX,sI,Option.map_eq_some_iff,Option.bind_eq_some_iff,ifB_some] at *
  obtain ⟨r,⟨fc,hf,hk,h1⟩,h2⟩ := e
  exact ⟨r,⟨fc,hf,hk,pb h h1⟩,h2⟩
 case pureq q =>
  simp only [evX,Option.map_eq_some_iff] at *
  obtain ⟨r,h1,h2⟩ := e
  exact ⟨r,mR h h1,h2⟩
 case treeq q =>
  simp only [evX,Option.bind_eq_some_iff] at *
  obtain ⟨r,h1,h2⟩ := e
  exact ⟨r,mR h h1,h2⟩
 all_goals exact e
theorem eB {Γ : Ctx} {c c' : jS} (h : gP c c') : ∀ {l env H r},dp Γ c l env H = some r → dp Γ c' l env H = some r
 | [],_,_,_,e => e
 | s :: l,env,H,r,e => by
  simp only [dp] at *
  cases hw : wanted (look env) s.g with
  | none => simp [hw] at e
  | some b =>
   cases b with
   | false => simp only [hw] at e ⊢; exact eB h e
   | true =>
    simp only [hw] at e ⊢
    cases ho : s.op with
    | inl q =>
     simp only [ho] at e ⊢
     cases hq : evQ Γ c (look env) H q with
     | none => simp [hq] at e
     | some v => simp only [hq] at e; simp only [mR h hq]; exact eB h e
    | inr x =>
     simp only [ho] at e ⊢
     cases hq : evX Γ c (look env) H x with
     | none => simp [hq] at e
     | some v => simp only [hq] at e; simp only [uO h hq]; exact eB h e
abbrev RunF := Code → Env → Heap → Option Out
def wS (c c' : RunF) : Prop := ∀ f a H r,c f a H = some r → c' f a H = some r
theorem Bv {Γ : Ctx} {c c' : RunF} (h : wS c c') {f : Nat} {as : List PV} {n : Int} (e : runI Γ c f as = some n) : runI Γ c' f as = some n := by
 unfold runI at *
 split at e
 ·split at e
  ·rename_i hl
   rw [if_pos hl]
   split at e
   ·cases e
   ·rename_i x env' H' hno ho
    rw [h _ _ _ _ ho]
    cases x with
    | nrm => exact e
    | ret => exact e
    | ex i => exact (hno i rfl).elim
   ·cases e
  ·cases e
 ·cases e
theorem pd {Γ : Ctx} {c c' : RunF} (h : wS c c') {f : Nat} : ∀ {ps : List (List PV × Int)},tR Γ c f ps = true → tR Γ c' f ps = true
 | [],_ => rfl
 | p :: r,e => by
  simp only [tR,Bool.and_eq_true,beq_iff_eq] at e ⊢
  exact ⟨Bv h e.1,pd h e.2⟩
theorem wP {Γ : Ctx} {c c' : RunF} (h : wS c c') : gP (wR Γ c) (wR Γ c') := by
 intro f a H r e
 unfold wR at *
 split at e
 ·exact e
 ·split at e
  ·rename_i hl
   rw [if_pos hl]
   split at e
   ·cases e
   ·rename_i x env' H' hno ho
    rw [h _ _ _ _ ho]
    cases x with
    | nrm => exact e
    | ret => exact e
    | ex i => exact (hno i rfl).elim
   ·cases e
  ·cases e
 ·cases e
theorem nz {Γ : Ctx} {c c' : RunF} (h : wS c c') : gP (callOf Γ c) (callOf Γ c') := by
 intro f a H r e
 unfold callOf at *
 cases hf : Γ.fn f with
 | none => simp [hf] at e
 | some fn =>
  cases fn with
  | prim g => simp only [hf] at e ⊢; exact e
  | fresh g => simp only [hf] at e ⊢; exact e
  | upd g => simp only [hf] at e ⊢; exact e
  | look g => simp only [hf] at e ⊢; exact e
  | hi g => simp only [hf] at e ⊢; exact g.mono _ _ (wP h) _ _ _ e
  | lookc k q g =>
   simp only [hf] at e ⊢
   split at e
   ·split at e
    ·split at e
     ·rename_i hc
      rw [if_pos (pd h hc)]; exact e
     ·cases e
    ·cases e
   ·cases e
  | code fn =>
   simp only [hf] at e ⊢
   split at e
   ·rename_i hl
    rw [if_pos hl]
    cases hr : c fn.body (fw a) H with
    | none => simp [hr] at e
    | some o => rw [hr] at e; rw [h _ _ _ _ hr]; exact e
   ·cases e
theorem ev_succ {Γ : Ctx} : ∀ n,wS (ev Γ n) (ev Γ (n + 1)) := by
 intro n
 induction n with
 | zero => intro c env H r e; simp [ev] at e
 | succ n ih =>
  intro c env H r e
  cases c with
  | skip => exact e
  | exit => exact e
  | bad => exact e
  | ret => exact e
  | ops live l =>
   simp only [ev,Option.map_eq_some_iff] at *
   obtain ⟨x,h1,h2⟩ := e
   exact ⟨x,eB (nz ih) h1,h2⟩
  | seq a b =>
   rw [ev] at e ⊢
   cases ha : ev Γ n a env H with
   | none => simp [ha] at e
   | some o =>
    rw [ih _ _ _ _ ha]
    rw [ha] at e
    obtain ⟨x,env',H'⟩ := o
    cases x <;> simp only at e ⊢
    ·exact ih _ _ _ _ e
    ·exact e
    ·exact e
  | cond c a b =>
   rw [ev] at e ⊢
   split at e
   ·rename_i t ht
    cases t
    ·exact ih _ _ _ _ e
    ·exact ih _ _ _ _ e
   ·cases e
  | block live id c =>
   rw [ev] at e ⊢
   cases ha : ev Γ n c env H with
   | none => simp [ha] at e
   | some o => rw [ih _ _ _ _ ha]; rw [ha] at e; exact e
  | loop live gc c =>
   rw [ev] at e ⊢
   cases hn : norm live gc env H with
   | none => simp [hn] at e
   | some eh =>
    simp only [hn] at e ⊢
    cases ha : ev Γ n c eh.1 eh.2 with
    | none => simp [ha] at e
    | some o =>
     rw [ih _ _ _ _ ha]
     rw [ha] at e
     obtain ⟨x,env',H'⟩ := o
     cases x <;> simp only at e ⊢
     ·exact ih _ _ _ _ e
     ·exact e
     ·exact e
theorem zp {Γ : Ctx} {n m} (h : n ≤ m) : wS (ev Γ n) (ev Γ m) := by
 induction h with
 | refl => exact fun _ _ _ _ e => e
 | step _ ih => exact fun _ _ _ _ e => ev_succ _ _ _ _ _ (ih _ _ _ _ e)
theorem ej {Γ : Ctx} {n m} (h : n ≤ m) : gP (callOf Γ (ev Γ n)) (callOf Γ (ev Γ m)) := nz (zp h)
def Wp (Γ : Ctx) (c : Code) (env : Env) (H : Heap) (Q : Out → Prop) : Prop := ∃ n o,ev Γ n c env H = some o ∧ Q o
def WpS (Γ : Ctx) (l : List St) (env : Env) (H : Heap) (Q : Env → Heap → Prop) : Prop := ∃ n r,dp Γ (callOf Γ (ev Γ n)) l env H = some r ∧ Q r.1 r.2
def RunP (Γ : Ctx) (f : Nat) (args rs : List PV) : Prop := ∃ n r,callOf Γ (ev Γ n) f (args.map .p) [] = some r ∧ mapO (aq r.2 4) r.1 = some rs
theorem Wp.mono {Γ c env H} {Q Q' : Out → Prop} (h : Wp Γ c env H Q) (hq : ∀ o,Q o → Q' o) : Wp Γ c env H Q' :=
 let ⟨n,o,h1,h2⟩ := h; ⟨n,o,h1,hq _ h2⟩
theorem Wp_skip {Γ env H Q} : Wp Γ .skip env H Q ↔ Q (.nrm,env,H) := by
 constructor
 ·rintro ⟨n,o,h1,h2⟩
  cases n with
  | zero => simp [ev] at h1
  | succ n => simp only [ev,Option.some.injEq] at h1; subst h1; exact h2
 ·exact fun h => ⟨1,_,rfl,h⟩
theorem Wp_exit {Γ id env H Q} : Wp Γ (.exit id) env H Q ↔ Q (.ex id,env,H) := by
 constructor
 ·rintro ⟨n,o,h1,h2⟩
  cases n with
  | zero => simp [ev] at h1
  | succ n => simp only [ev,Option.some.injEq] at h1; subst h1; exact h2
 ·exact fun h => ⟨1,_,rfl,h⟩
theorem Wp_ret {Γ env H Q} : Wp Γ .ret env H Q ↔ Q (.ret,env,H) := by
 constructor
 ·rintro ⟨n,o,h1,h2⟩
  cases n with
  | zero => simp [ev] at h1
  | succ n => simp only [ev,Option.some.injEq] at h1; subst h1; exact h2
 ·exact fun h => ⟨1,_,rfl,h⟩
theorem Wp_ops {Γ live l env H Q} : Wp Γ (.ops live l) env H Q ↔ WpS Γ l env H fun e h => Q (.nrm,prune live e,h) := by
 constructor
 ·rintro ⟨n,o,h1,h2⟩
  cases n with
  | zero => simp [ev] at h1
  | succ n =>
   simp only [ev,Option.map_eq_some_iff] at h1
   obtain ⟨r,h3,rfl⟩ := h1
   exact ⟨n,r,h3,h2⟩
 ·rintro ⟨n,r,h1,h2⟩
  exact ⟨n + 1,_,by simp only [ev,h1]; rfl,h2⟩
def Nxt (Q : Out → Prop) (K : Env → Heap → Prop) : Out → Prop
 | (.nrm,e,h) => K e h
 | o => Q o
def oK (live : List Nat) (id : Nat) (Q : Out → Prop) : Out → Prop
 | (.nrm,e,h) => Q (.nrm,prune live e,h)
 | (.ex i,e,h) => if i = id then Q (.nrm,prune live e,h) else Q (.ex i,e,h)
 | o => Q o
theorem Ay {live id Q e h} : oK live id Q (.nrm,e,h) ↔ Q (.nrm,prune live e,h) := Iff.rfl
theorem vu {live id Q i e h} : oK live id Q (.ex i,e,h) ↔ if i = id then Q (.nrm,prune live e,h) else Q (.ex i,e,h) := Iff.rfl
theorem A4 {live id Q e h} : oK live id Q (.ret,e,h) ↔ Q (.ret,e,h) := Iff.rfl
theorem Wp_seq {Γ a b env H Q} : Wp Γ (.seq a b) env H Q ↔ Wp Γ a env H (Nxt Q fun e h => Wp Γ b e h Q) := by
 constructor
 ·rintro ⟨n,o,h1,h2⟩
  cases n with
  | zero => simp [ev] at h1
  | succ n =>
   rw [ev] at h1
   cases ha : ev Γ n a env H with
   | none => simp [ha] at h1
   | some x =>
    rw [ha] at h1
    obtain ⟨y,e,h⟩ := x
    refine ⟨n,_,ha,?_⟩
    cases y <;> simp only [Nxt] at h1 ⊢
    ·exact ⟨n,o,h1,h2⟩
    all_goals (simp only [Option.some.injEq] at h1; subst h1; exact h2)
 ·rintro ⟨n,⟨y,e,h⟩,h1,h2⟩
  cases y
  ·obtain ⟨m,o,h3,h4⟩ := h2
   refine ⟨max n m + 1,o,?_,h4⟩
   rw [ev,zp (Nat.le_max_left n m) _ _ _ _ h1]
   exact zp (Nat.le_max_right n m) _ _ _ _ h3
  all_goals exact ⟨n + 1,_,by rw [ev,h1],h2⟩
theorem Wp_block {Γ live id c env H Q} : Wp Γ (.block live id c) env H Q ↔ Wp Γ c env H (oK live id Q) := by
 constructor
 ·rintro ⟨n,o,h1,h2⟩
  cases n with
  | zero => simp [ev] at h1
  | succ n =>
   rw [ev] at h1
   cases ha : ev Γ n c env H with
   | none => simp [ha] at h1
   | some x =>
    rw [ha] at h1
    obtain ⟨y,e,h⟩ := x
    refine ⟨n,_,ha,?_⟩
    cases y <;> simp only [oK] at h1 ⊢
    case ex i =>
     split at h1 <;> rename_i hi <;> simp only [Option.some.injEq] at h1 <;> subst h1
     ·rw [if_pos hi]; exact h2
     ·rw [if_neg hi]; exact h2
    all_goals (simp only [Option.some.injEq] at h1; subst h1; exact h2)
 ·rintro ⟨n,⟨y,e,h⟩,h1,h2⟩
  cases y
  case ex i =>
   simp only [oK] at h2
   refine ⟨n + 1,if i = id then (.nrm,prune live e,h) else (.ex i,e,h),by rw [ev,h1]; simp only; split <;> rfl,?_⟩
   split at h2 <;> rename_i hi
   ·rw [if_pos hi]; exact h2
   ·rw [if_neg hi]; exact h2
  all_goals exact ⟨n + 1,_,by rw [ev,h1],h2⟩
def condP (v : AV) (A B : Prop) : Prop :=
 match v with
 | .p (.bool t) => if t = true then A else B
 | _ => False
theorem Wp_cond {Γ x a b env H Q} : Wp Γ (.cond x a b) env H Q ↔ condP (x.ev Γ (look env)) (Wp Γ a env H Q) (Wp Γ b env H Q) := by
 constructor
 ·rintro ⟨n,o,h1,h2⟩
  cases n with
  | zero => simp [ev] at h1
  | succ n =>
   rw [ev] at h1
   split at h1
   ·rename_i t ht
    rw [ht]
    cases t
    ·exact ⟨n,o,h1,h2⟩
    ·exact ⟨n,o,h1,h2⟩
   ·cases h1
 ·intro h
  unfold condP at h
  split at h
  ·rename_i t ht
   cases t
   ·obtain ⟨n,o,h1,h2⟩ := h
    exact ⟨n + 1,o,by rw [ev,ht]; exact h1,h2⟩
   ·obtain ⟨n,o,h1,h2⟩ := h
    exact ⟨n + 1,o,by rw [ev,ht]; exact h1,h2⟩
  ·cases h
def optP {α : Type} (x : Option α) (K : α → Prop) : Prop := match x with | some v => K v | none => False
theorem zf {α : Type} {v : α} {K : α → Prop} : optP (some v) K ↔ K v := Iff.rfl
theorem BP {α : Type} {K : α → Prop} : optP none K ↔ False := Iff.rfl
theorem aX {α : Type} {x : Option α} {K : α → Prop} : optP x K ↔ ∃ v,x = some v ∧ K v := by cases x <;> simp [optP]
theorem Wp_loop {Γ live gc c env H Q} : Wp Γ (.loop live gc c) env H Q ↔
  optP (norm live gc env H) fun eh => Wp Γ c eh.1 eh.2 (Nxt Q fun e h => Wp Γ (.loop live gc c) e h Q) := by
 constructor
 ·rintro ⟨n,o,h1,h2⟩
  cases n with
  | zero => simp [ev] at h1
  | succ n =>
   rw [ev] at h1
   cases hn : norm live gc env H with
   | none => simp [hn] at h1
   | some eh =>
    simp only [hn] at h1
    rw [zf]
    cases ha : ev Γ n c eh.1 eh.2 with
    | none => simp [ha] at h1
    | some x =>
     rw [ha] at h1
     obtain ⟨y,e,h⟩ := x
     refine ⟨n,_,ha,?_⟩
     cases y <;> simp only [Nxt] at h1 ⊢
     ·exact ⟨n,o,h1,h2⟩
     all_goals (simp only [Option.some.injEq] at h1; subst h1; exact h2)
 ·intro h
  rw [aX] at h
  obtain ⟨eh,hn,n,⟨y,e,h⟩,h1,h2⟩ := h
  cases y
  ·obtain ⟨m,o,h3,h4⟩ := h2
   refine ⟨max n m + 1,o,?_,h4⟩
   rw [ev,hn]
   simp only
   rw [zp (Nat.le_max_left n m) _ _ _ _ h1]
   exact zp (Nat.le_max_right n m) _ _ _ _ h3
  all_goals exact ⟨n + 1,_,by rw [ev,hn]; simp only; rw [h1],h2⟩
theorem Wp_loop' {Γ L live gc c env H Q} (h : L = .loop live gc c) : Wp Γ L env H Q ↔
  optP (norm live gc env H) fun eh => Wp Γ c eh.1 eh.2 (Nxt Q fun e h => Wp Γ L e h Q) := by subst h; exact Wp_loop
theorem WpS_nil {Γ env H Q} : WpS Γ [] env H Q ↔ Q env H :=
 ⟨fun ⟨_,_,h1,h2⟩ => by simp only [dp,Option.some.injEq] at h1; subst h1; exact h2,fun h => ⟨0,_,rfl,h⟩⟩
def WpO (Γ : Ctx) (o : QOp ⊕ XOp) (env : Env) (H : Heap) (K : AV → Heap → Prop) : Prop :=
 ∃ n,match o with
  | .inl q => optP (evQ Γ (callOf Γ (ev Γ n)) (look env) H q) fun v => K v H
  | .inr x => optP (evX Γ (callOf Γ (ev Γ n)) (look env) H x) fun r => K r.1 r.2
def gd (x : Option Bool) (A B : Prop) : Prop :=
 match x with
 | some t => if t = true then B else A
 | none => False
theorem Bu {t A B} : gd (some t) A B ↔ if t = true then B else A := Iff.rfl
theorem qA {Γ dst g o r env H Q} : WpS Γ (⟨dst,g,o⟩ :: r) env H Q ↔
  gd (wanted (look env) g) (WpS Γ r (put env dst .nov) H Q) (WpO Γ o env H fun v H' => WpS Γ r (put env dst v) H' Q) := by
 constructor
 ·rintro ⟨n,x,h1,h2⟩
  simp only [dp] at h1
  cases hw : wanted (look env) g with
  | none => simp [hw] at h1
  | some b =>
   cases b with
   | false => simp only [hw] at h1; exact ⟨n,x,h1,h2⟩
   | true =>
    simp only [hw] at h1
    refine ⟨n,?_⟩
    cases o with
    | inl q =>
     simp only at h1 ⊢
     cases hq : evQ Γ (callOf Γ (ev Γ n)) (look env) H q with
     | none => simp [hq] at h1
     | some v => simp only [hq] at h1; exact ⟨n,x,h1,h2⟩
    | inr q =>
     simp only at h1 ⊢
     cases hq : evX Γ (callOf Γ (ev Γ n)) (look env) H q with
     | none => simp [hq] at h1
     | some v => simp only [hq] at h1; exact ⟨n,x,h1,h2⟩
 ·intro h
  cases hw : wanted (look env) g with
  | none => rw [hw] at h; exact h.elim
  | some b =>
   rw [hw] at h
   cases b with
   | false =>
    obtain ⟨n,x,h1,h2⟩ := h
    exact ⟨n,x,by simp only [dp,hw]; exact h1,h2⟩
   | true =>
    obtain ⟨n,h⟩ := h
    cases o with
    | inl q =>
     simp only [aX] at h
     obtain ⟨v,hq,m,x,h1,h2⟩ := h
     refine ⟨max n m,x,?_,h2⟩
     simp only [dp,hw,mR (ej (Nat.le_max_left n m)) hq]
     exact eB (ej (Nat.le_max_right n m)) h1
    | inr q =>
     simp only [aX] at h
     obtain ⟨v,hq,m,x,h1,h2⟩ := h
     refine ⟨max n m,x,?_,h2⟩
     simp only [dp,hw,uO (ej (Nat.le_max_left n m)) hq]
     exact eB (ej (Nat.le_max_right n m)) h1
def lV : jS := fun _ _ _ => none
theorem o8 {α : Type} {x : Nat → Option α} {y : Option α} (h : ∀ n,x n = y) {K : α → Prop} : (∃ n,optP (x n) K) ↔ optP y K := by
 simp only [h]
 exact ⟨fun ⟨_,h⟩ => h,fun h => ⟨0,h⟩⟩
def QOp.plain : QOp → Bool
 | .call _ _ | .callr _ _ => false
 | _ => true
def XOp.plain : XOp → Bool
 | .callf _ _ | .calls _ _ | .callz _ _ | .callw _ _ | .callwr _ _ | .callwk _ _ _ | .callk _ _ _ | .pureq _ | .treeq _ => false
 | _ => true
theorem ek {Γ q env H K} (h : q.plain = true) : WpO Γ (.inl q) env H K ↔ optP (evQ Γ lV (look env) H q) fun v => K v H :=
 o8 fun n => by cases q <;> first | rfl | cases h
theorem ij {Γ x env H K} (h : x.plain = true) : WpO Γ (.inr x) env H K ↔ optP (evX Γ lV (look env) H x) fun r => K r.1 r.2 :=
 o8 fun n => by cases x <;> first | rfl | cases h
section
variable {Γ : Ctx} {env : Env} {H : Heap} {K : AV → Heap → Prop}
end
theorem RunP_of {Γ : Ctx} {f : Nat} {fn : AFn} {args rs : List PV} (hf : Γ.fn f = some (.code fn)) (hl : args.length = fn.np)
  (h : Wp Γ fn.body (fw (args.map .p)) [] fun o => (∀ i,o.1 ≠ .ex i) ∧ optP (mapO (RV.get o.2.1 o.2.2) fn.results) fun vs => mapO (aq o.2.2 4) vs = some rs) : RunP Γ f args rs := by
 obtain ⟨n,⟨x,e,H⟩,h1,h2,h3⟩ := h
 rw [aX] at h3
 obtain ⟨vs,h4,h5⟩ := h3
 refine ⟨n,(vs,H),?_,h5⟩
 unfold callOf
 rw [hf]
 simp only [List.length_map,hl,if_true,h1]
 cases x
 ·simp only [h4]
 ·exact absurd rfl (h2 _)
 ·simp only [h4]
theorem fJ {Γ : Ctx} {f : Nat} {g} {args rs : List PV} (hf : Γ.fn f = some (.prim g)) (h : g args = some rs) : RunP Γ f args rs := by
 have e : ∀ l : List PV,dH (l.map .p) = some l := by
  intro l
  induction l with
  | nil => rfl
  | cons a l ih => simp [dH,ih]
 have e2 : ∀ (H : Heap) (l : List PV),mapO (aq H 4) (l.map .p) = some l := by
  intro H l
  induction l with
  | nil => rfl
  | cons a l ih => simp only [List.map_cons,mapO,ih,show aq H 4 (.p a) = some a from rfl]
 refine ⟨0,(rs.map .p,[]),?_,e2 _ _⟩
 unfold callOf
 rw [hf]
 simp only [e,h]
end Ab
namespace Ab
open Go (IntKind BinOp UnOp)
theorem wrap_i64 {x : Int} (h0 : -9223372036854775808 ≤ x) (h1 : x ≤ 9223372036854775807) : IntKind.i64.wrap x = x := by
 simp only [IntKind.wrap,IntKind.bits,IntKind.signed,Bool.true_and,decide_eq_true_eq,ge_iff_le]
 have e : (2 : Int) ^ 64 = 18446744073709551616 := by decide
 have e2 : (2 : Int) ^ (64 - 1) = 9223372036854775808 := by decide
 rw [e,e2]
 split <;> omega
theorem x5 (n : Nat) : ((n : Int)).toNat = n := Int.toNat_natCast n
end Ab
namespace Ab
open Go (IntKind BinOp UnOp)
theorem RunP_det {Γ : Ctx} {f : Nat} {ps rs rs' : List PV} (h : RunP Γ f ps rs) (h' : RunP Γ f ps rs') : rs = rs' := by
 obtain ⟨n,r,h1,h2⟩ := h
 obtain ⟨m,r',h3,h4⟩ := h'
 have e1 := ej (Nat.le_max_left n m) _ _ _ _ h1
 have e2 := ej (Nat.le_max_right n m) _ _ _ _ h3
 rw [e1] at e2
 cases e2
 rw [h2] at h4
 cases h4
 rfl
open Classical in
noncomputable def res (Γ : Ctx) (f : Nat) (ps : List PV) : Option (List PV) := if h : ∃ rs,RunP Γ f ps rs then some h.choose else none
theorem jl {Γ f ps rs} (h : RunP Γ f ps rs) : res Γ f ps = some rs := by
 have h' : ∃ rs,RunP Γ f ps rs := ⟨_,h⟩
 unfold res
 rw [dif_pos h']
 exact congrArg some (RunP_det h'.choose_spec h)
theorem of_res {Γ f ps rs} (h : res Γ f ps = some rs) : RunP Γ f ps rs := by
 unfold res at h
 split at h
 ·rename_i h'
  cases h
  exact h'.choose_spec
 ·cases h
def WpL (Γ : Ctx) (l : List St) (env : Env) (H : Heap) (live : List Nat) (Q : Out → Prop) : Prop := WpS Γ l env H fun e h => Q (.nrm,prune live e,h)
def NxtC (Γ : Ctx) (b : Code) (Q : Out → Prop) : Out → Prop
 | (.nrm,e,h) => Wp Γ b e h Q
 | o => Q o
def tf (Γ : Ctx) (v : AV) (a b : Code) (env : Env) (H : Heap) (Q : Out → Prop) : Prop := condP v (Wp Γ a env H Q) (Wp Γ b env H Q)
def opK (Γ : Ctx) (x : Option AV) (dst : Option Nat) (r : List St) (env : Env) (H : Heap) (live : List Nat) (Q : Out → Prop) : Prop := optP x fun v => WpL Γ r (put env dst v) H live Q
def opX (Γ : Ctx) (x : Option (AV × Heap)) (dst : Option Nat) (r : List St) (env : Env) (live : List Nat) (Q : Out → Prop) : Prop := optP x fun y => WpL Γ r (put env dst y.1) y.2 live Q
def gdK (Γ : Ctx) (v : AV) (b : Bool) (dst : Option Nat) (op : QOp ⊕ XOp) (r : List St) (env : Env) (H : Heap) (live : List Nat) (Q : Out → Prop) : Prop :=
 gd (match v with | .p (.bool c) => some (c == b) | .nov => some false | _ => none) (WpL Γ r (put env dst .nov) H live Q) (WpL Γ (⟨dst,none,op⟩ :: r) env H live Q)
def lpK (Γ : Ctx) (c L : Code) (x : Option (Env × Heap)) (Q : Out → Prop) : Prop := optP x fun eh => Wp Γ c eh.1 eh.2 (NxtC Γ L Q)
section
variable {Γ : Ctx} {env : Env} {H : Heap} {live : List Nat} {Q : Out → Prop} {r : List St} {dst : Option Nat}
theorem W_seq {a b} : Wp Γ (.seq a b) env H Q ↔ Wp Γ a env H (NxtC Γ b Q) := Wp_seq
theorem NxtC_nrm {b e h} : NxtC Γ b Q (.nrm,e,h) ↔ Wp Γ b e h Q := Iff.rfl
theorem NxtC_ex {b i e h} : NxtC Γ b Q (.ex i,e,h) ↔ Q (.ex i,e,h) := Iff.rfl
theorem NxtC_ret {b e h} : NxtC Γ b Q (.ret,e,h) ↔ Q (.ret,e,h) := Iff.rfl
theorem xR {id e h} : oK live id Q (.ex id,e,h) ↔ Q (.nrm,prune live e,h) := by rw [vu,if_pos rfl]
theorem tE {id i e h} (hi : i ≠ id) : oK live id Q (.ex i,e,h) ↔ Q (.ex i,e,h) := by rw [vu,if_neg hi]
theorem W_ops {l} : Wp Γ (.ops live l) env H Q ↔ WpL Γ l env H live Q := Wp_ops
theorem W_cond {x a b} : Wp Γ (.cond x a b) env H Q ↔ tf Γ (x.ev Γ (look env)) a b env H Q := Wp_cond
theorem pq {a b} : tf Γ (.p (.bool true)) a b env H Q ↔ Wp Γ a env H Q := Iff.rfl
theorem oq {a b} : tf Γ (.p (.bool false)) a b env H Q ↔ Wp Γ b env H Q := by simp [tf,condP]
theorem L_nil : WpL Γ [] env H live Q ↔ Q (.nrm,prune live env,H) := WpS_nil
theorem L_guard {t b op} : WpL Γ (⟨dst,some (t,b),op⟩ :: r) env H live Q ↔ gdK Γ (look env t) b dst op r env H live Q := by
 unfold WpL gdK
 rw [qA,wanted,WpL,WpL,qA,wanted,Bu,if_pos rfl]
 cases look env t with
 | p v => cases v <;> exact Iff.rfl
 | _ => exact Iff.rfl
theorem gdK_tt {op} : gdK Γ (.p (.bool true)) true dst op r env H live Q ↔ WpL Γ (⟨dst,none,op⟩ :: r) env H live Q := by simp [gdK,gd]
theorem gdK_ff {op} : gdK Γ (.p (.bool false)) false dst op r env H live Q ↔ WpL Γ (⟨dst,none,op⟩ :: r) env H live Q := by simp [gdK,gd]
theorem gdK_tf {op} : gdK Γ (.p (.bool true)) false dst op r env H live Q ↔ WpL Γ r (put env dst .nov) H live Q := by simp [gdK,gd]
theorem gdK_ft {op} : gdK Γ (.p (.bool false)) true dst op r env H live Q ↔ WpL Γ r (put env dst .nov) H live Q := by simp [gdK,gd]
theorem gdK_nov {op b} : gdK Γ .nov b dst op r env H live Q ↔ WpL Γ r (put env dst .nov) H live Q := by simp [gdK,gd]
theorem opK_some {v} : opK Γ (some v) dst r env H live Q ↔ WpL Γ r (put env dst v) H live Q := Iff.rfl
theorem opX_some {v H'} : opX Γ (some (v,H')) dst r env live Q ↔ WpL Γ r (put env dst v) H' live Q := Iff.rfl
theorem L_of {o} : WpL Γ (⟨dst,none,o⟩ :: r) env H live Q ↔ WpO Γ o env H fun v H' => WpL Γ r (put env dst v) H' live Q := by
 unfold WpL
 rw [qA,wanted,Bu,if_pos rfl]
theorem af {L gc c} (h : L = .loop live gc c) : Wp Γ L env H Q ↔ lpK Γ c L (norm live gc env H) Q := Wp_loop' h
theorem lpK_some {c L e h} : lpK Γ c L (some (e,h)) Q ↔ Wp Γ c e h (NxtC Γ L Q) := Iff.rfl
theorem L_mov {x} : WpL Γ (⟨dst,none,.inl (.mov x)⟩ :: r) env H live Q ↔ opK Γ (some (Arg.ev Γ (look env) x)) dst r env H live Q := L_of.trans (ek rfl)
theorem L_pick {c a b} : WpL Γ (⟨dst,none,.inl (.pick c a b)⟩ :: r) env H live Q ↔ opK Γ (rL (Arg.ev Γ (look env) c) (Arg.ev Γ (look env) a) (Arg.ev Γ (look env) b)) dst r env H live Q := L_of.trans (ek rfl)
theorem L_nilchk {x} : WpL Γ (⟨dst,none,.inl (.nilchk x)⟩ :: r) env H live Q ↔ opK Γ (eS H (Arg.ev Γ (look env) x)) dst r env H live Q := L_of.trans (ek rfl)
theorem L_bin {op x y} : WpL Γ (⟨dst,none,.inl (.bin op x y)⟩ :: r) env H live Q ↔ opK Γ (cR op (Arg.ev Γ (look env) x) (Arg.ev Γ (look env) y)) dst r env H live Q := L_of.trans (ek rfl)
theorem L_eqk {kd neg x y} : WpL Γ (⟨dst,none,.inl (.eqk kd neg x y)⟩ :: r) env H live Q ↔ opK Γ (eqkA kd neg (Arg.ev Γ (look env) x) (Arg.ev Γ (look env) y)) dst r env H live Q := L_of.trans (ek rfl)
theorem L_un {op x} : WpL Γ (⟨dst,none,.inl (.un op x)⟩ :: r) env H live Q ↔ opK Γ (unA op (Arg.ev Γ (look env) x)) dst r env H live Q := L_of.trans (ek rfl)
theorem L_strOf {x} : WpL Γ (⟨dst,none,.inl (.strOf x)⟩ :: r) env H live Q ↔ opK Γ (kJ H (Arg.ev Γ (look env) x)) dst r env H live Q := L_of.trans (ek rfl)
theorem L_len {s x} : WpL Γ (⟨dst,none,.inl (.len s x)⟩ :: r) env H live Q ↔ opK Γ ((asLen H s (Arg.ev Γ (look env) x)).map fun (n : Nat) => AV.p (.int .i64 (n : Int))) dst r env H live Q := L_of.trans (ek rfl)
theorem L_idx {x i} : WpL Γ (⟨dst,none,.inl (.idx x i)⟩ :: r) env H live Q ↔ opK Γ (idxA (Arg.ev Γ (look env) x) (Arg.ev Γ (look env) i)) dst r env H live Q := L_of.trans (ek rfl)
theorem L_fld {off sz ag x} : WpL Γ (⟨dst,none,.inl (.fld off sz ag x)⟩ :: r) env H live Q ↔ opK Γ (fldA off sz ag (Arg.ev Γ (look env) x)) dst r env H live Q := L_of.trans (ek rfl)
theorem L_faddr {off x} : WpL Γ (⟨dst,none,.inl (.faddr off x)⟩ :: r) env H live Q ↔ opK Γ (ju H off (Arg.ev Γ (look env) x)) dst r env H live Q := L_of.trans (ek rfl)
theorem L_iaddr {sz x i} : WpL Γ (⟨dst,none,.inl (.iaddr sz x i)⟩ :: r) env H live Q ↔ opK Γ (iaddrA H sz (Arg.ev Γ (look env) x) (Arg.ev Γ (look env) i)) dst r env H live Q := L_of.trans (ek rfl)
theorem L_load {sz ag x} : WpL Γ (⟨dst,none,.inl (.load sz ag x)⟩ :: r) env H live Q ↔ opK Γ (eH H sz ag (Arg.ev Γ (look env) x)) dst r env H live Q := L_of.trans (ek rfl)
theorem L_sliceS {x lo hi} : WpL Γ (⟨dst,none,.inl (.sliceS x lo hi)⟩ :: r) env H live Q ↔ opK Γ (dv (Arg.ev Γ (look env) x) (lo.map (Arg.ev Γ (look env))) (hi.map (Arg.ev Γ (look env)))) dst r env H live Q := L_of.trans (ek rfl)
theorem L_slice {sz x lo hi} : WpL Γ (⟨dst,none,.inl (.slice sz x lo hi)⟩ :: r) env H live Q ↔ opK Γ (cQ sz (Arg.ev Γ (look env) x) (lo.map (Arg.ev Γ (look env))) (hi.map (Arg.ev Γ (look env)))) dst r env H live Q := L_of.trans (ek rfl)
theorem L_build {zero parts} : WpL Γ (⟨dst,none,.inl (.build zero parts)⟩ :: r) env H live Q ↔ opK Γ ((eX (zero.map .p) (parts.map fun q => (q.off,q.sz,Arg.ev Γ (look env) q.arg))).map mkAgg) dst r env H live Q := L_of.trans (ek rfl)
theorem L_bslice {sz ag n zero parts} : WpL Γ (⟨dst,none,.inl (.bslice sz ag n zero parts)⟩ :: r) env H live Q ↔ opK Γ (m8 sz ag n (eX (zero.map .p) (parts.map fun q => (q.off,q.sz,Arg.ev Γ (look env) q.arg)))) dst r env H live Q := L_of.trans (ek rfl)
theorem L_ext {x i} : WpL Γ (⟨dst,none,.inl (.ext x i)⟩ :: r) env H live Q ↔ opK Γ (extA i (Arg.ev Γ (look env) x)) dst r env H live Q := L_of.trans (ek rfl)
theorem L_mget {kd zero comma x k} : WpL Γ (⟨dst,none,.inl (.mget kd zero comma x k)⟩ :: r) env H live Q ↔ opK Γ (w6 H kd zero comma (Arg.ev Γ (look env) x) (Arg.ev Γ (look env) k)) dst r env H live Q := L_of.trans (ek rfl)
theorem L_isnil {neg x y} : WpL Γ (⟨dst,none,.inl (.isnil neg x y)⟩ :: r) env H live Q ↔ opK Γ (kn H neg (Arg.ev Γ (look env) x) (Arg.ev Γ (look env) y)) dst r env H live Q := L_of.trans (ek rfl)
theorem L_minmax {mx xs} : WpL Γ (⟨dst,none,.inl (.minmax mx xs)⟩ :: r) env H live Q ↔ opK Γ (minmax mx (xs.map (Arg.ev Γ (look env)))) dst r env H live Q := L_of.trans (ek rfl)
theorem L_clos {f caps} : WpL Γ (⟨dst,none,.inl (.clos f caps)⟩ :: r) env H live Q ↔ opK Γ (ifB ((caps.map (Arg.ev Γ (look env))).all AV.one) (some (A8 f (caps.map (Arg.ev Γ (look env)))))) dst r env H live Q := L_of.trans (ek rfl)
theorem L_alloc {zero} : WpL Γ (⟨dst,none,.inr (.alloc zero)⟩ :: r) env H live Q ↔ opX Γ (some (.bx H.length 0,H ++ [.box (zero.map .p)])) dst r env live Q := L_of.trans (ij rfl)
theorem L_box {x} : WpL Γ (⟨dst,none,.inr (.box x)⟩ :: r) env H live Q ↔ opX Γ (boxA H (Arg.ev Γ (look env) x)) dst r env live Q := L_of.trans (ij rfl)
theorem L_store {sz x v} : WpL Γ (⟨dst,none,.inr (.store sz x v)⟩ :: r) env H live Q ↔ opX Γ ((ia H sz (Arg.ev Γ (look env) x) (Arg.ev Γ (look env) v)).map fun H' => (AV.nov,H')) dst r env live Q := L_of.trans (ij rfl)
theorem Bl {sz ag zero n c} : WpL Γ (⟨dst,none,.inr (.mkslice sz ag zero n c)⟩ :: r) env H live Q ↔ opX Γ (fe H sz ag zero (Arg.ev Γ (look env) n) (Arg.ev Γ (look env) c)) dst r env live Q := L_of.trans (ij rfl)
theorem L_brow {sz ag n zero parts} : WpL Γ (⟨dst,none,.inr (.brow sz ag n zero parts)⟩ :: r) env H live Q ↔ opX Γ (yR H sz ag n (eX (zero.map .p) (parts.map fun q => (q.off,q.sz,Arg.ev Γ (look env) q.arg)))) dst r env live Q := L_of.trans (ij rfl)
theorem L_mkmap : WpL Γ (⟨dst,none,.inr .mkmap⟩ :: r) env H live Q ↔ opX Γ (some (.mp H.length,H ++ [.box (ah [])])) dst r env live Q := L_of.trans (ij rfl)
theorem L_mset {kd x k v} : WpL Γ (⟨dst,none,.inr (.mset kd x k v)⟩ :: r) env H live Q ↔ opX Γ ((rx H kd (Arg.ev Γ (look env) x) (Arg.ev Γ (look env) k) (Arg.ev Γ (look env) v)).map fun H' => (AV.nov,H')) dst r env live Q := L_of.trans (ij rfl)
theorem L_newrow {sz} : WpL Γ (⟨dst,none,.inr (.newrow sz)⟩ :: r) env H live Q ↔ opX Γ (some (.own H.length 0,H ++ [.row false sz []])) dst r env live Q := L_of.trans (ij rfl)
theorem L_append {sz x y} : WpL Γ (⟨dst,none,.inr (.append sz x y)⟩ :: r) env H live Q ↔ opX Γ ((elemsOf H sz (Arg.ev Γ (look env) y)).bind fun ys => aW H sz (Arg.ev Γ (look env) x) ys) dst r env live Q := L_of.trans (ij rfl)
theorem L_copy {sz x y} : WpL Γ (⟨dst,none,.inr (.copy sz x y)⟩ :: r) env H live Q ↔ opX Γ ((ey H sz (Arg.ev Γ (look env) y)).bind fun ys => tF H sz (Arg.ev Γ (look env) x) ys) dst r env live Q := L_of.trans (ij rfl)
theorem Bj {x} : WpL Γ (⟨dst,none,.inr (.bytesOf x)⟩ :: r) env H live Q ↔ opX Γ (kK H (Arg.ev Γ (look env) x)) dst r env live Q := L_of.trans (ij rfl)
theorem vT {sz x hi} : WpL Γ (⟨dst,none,.inr (.popf sz x hi)⟩ :: r) env H live Q ↔ opX Γ (popA H sz (Arg.ev Γ (look env) x) (Arg.ev Γ (look env) hi)) dst r env live Q := L_of.trans (ij rfl)
theorem j0 {sz x lo hi} : WpL Γ (⟨dst,none,.inl (.wslice sz x lo hi)⟩ :: r) env H live Q ↔ opK Γ (gF H sz (Arg.ev Γ (look env) x) (lo.map (Arg.ev Γ (look env))) (hi.map (Arg.ev Γ (look env)))) dst r env H live Q := L_of.trans (ek rfl)
theorem L_loadk {sz ag x k} : WpL Γ (⟨dst,none,.inl (.loadk sz ag x k)⟩ :: r) env H live Q ↔ opK Γ (oA H sz ag (Arg.ev Γ (look env) x) (Arg.ev Γ (look env) k)) dst r env H live Q := L_of.trans (ek rfl)
theorem L_slicef {sz x lo hi} : WpL Γ (⟨dst,none,.inr (.slicef sz x lo hi)⟩ :: r) env H live Q ↔ opX Γ (jH H sz (Arg.ev Γ (look env) x) (lo.map (Arg.ev Γ (look env))) (hi.map (Arg.ev Γ (look env)))) dst r env live Q := L_of.trans (ij rfl)
noncomputable def callR (Γ : Ctx) (H : Heap) (f : AV) (as : List AV) : Option (List PV) := (callee f).bind fun fc => (mapO (aq H 4) (as ++ fc.2)).bind (res Γ fc.1)
theorem pf {f : AV} {as : List AV} {rs : List PV} (h : callR Γ H f as = some rs) : ∃ n,mi (callOf Γ (ev Γ n)) H f as = some rs := by
 unfold callR at h
 obtain ⟨fc,h1,h⟩ := Option.bind_eq_some_iff.1 h
 obtain ⟨ps,h2,h⟩ := Option.bind_eq_some_iff.1 h
 obtain ⟨n,r,h3,h4⟩ := of_res h
 exact ⟨n,by simp only [mi,h1,Option.bind_some,h2,h3,h4]⟩
theorem uU {f : AV} {as : List AV} {rs : List PV} {n : Nat} (h : mi (callOf Γ (ev Γ n)) H f as = some rs) : callR Γ H f as = some rs := by
 unfold mi at h
 obtain ⟨fc,h1,h⟩ := Option.bind_eq_some_iff.1 h
 obtain ⟨ps,h2,h⟩ := Option.bind_eq_some_iff.1 h
 obtain ⟨r,h3,h4⟩ := Option.bind_eq_some_iff.1 h
 simp only [callR,h1,h2,Option.bind_some]
 exact jl ⟨n,r,h3,h4⟩
theorem L_call {f args} : WpL Γ (⟨dst,none,.inl (.call f args)⟩ :: r) env H live Q ↔ opK Γ ((callR Γ H (Arg.ev Γ (look env) f) (args.map (Arg.ev Γ (look env)))).bind fun rs =>
      ifB (allP (args.map (Arg.ev Γ (look env))) && (Arg.ev Γ (look env) f).isP || rs.all flat) (some (results (rs.map .p)))) dst r env H live Q := by
  rw [L_of]
  unfold opK WpO
  constructor
  · rintro ⟨n,h⟩
    dsimp only at h
    rw [aX] at h ⊢
    obtain ⟨v,h1,h2⟩ := h
    simp only [evQ] at h1
    obtain ⟨rs,h3,h4⟩ := Option.bind_eq_some_iff.1 h1
    exact ⟨v,by rw [uU h3]; exact h4,h2⟩
  · intro h
    rw [aX] at h
    obtain ⟨v,h1,h2⟩ := h
    obtain ⟨rs,h3,h4⟩ := Option.bind_eq_some_iff.1 h1
    obtain ⟨n,h5⟩ := pf h3
    refine ⟨n,?_⟩
    simp only [evQ,h5,Option.bind_some,h4]
    exact h2
theorem L_callf {f args} : WpL Γ (⟨dst,none,.inr (.callf f args)⟩ :: r) env H live Q ↔ opX Γ (ifB (iC ((args.map (Arg.ev Γ (look env))).flatMap AV.cells) && (Arg.ev Γ (look env) f).isP)
      ((callR Γ H (Arg.ev Γ (look env) f) (args.map (Arg.ev Γ (look env)))).map fun rs => (results (rs.map .p),freeze H ((args.map (Arg.ev Γ (look env))).flatMap AV.cells)))) dst r env live Q := by
  rw [L_of]
  unfold opX WpO
  constructor
  · rintro ⟨n,h⟩
    dsimp only at h
    rw [aX] at h ⊢
    obtain ⟨v,h1,h2⟩ := h
    simp only [evX] at h1
    obtain ⟨hb,h3⟩ := ifB_some.1 h1
    obtain ⟨rs,h4,rfl⟩ := Option.map_eq_some_iff.1 h3
    exact ⟨_,by rw [uU h4,ifB_some]; exact ⟨hb,rfl⟩,h2⟩
  · intro h
    rw [aX] at h
    obtain ⟨v,h1,h2⟩ := h
    obtain ⟨hb,h3⟩ := ifB_some.1 h1
    obtain ⟨rs,h4,rfl⟩ := Option.map_eq_some_iff.1 h3
    obtain ⟨n,h5⟩ := pf h4
    refine ⟨n,?_⟩
    simp only [evX,hb,h5,Option.map_some]
    exact h2
end
end Ab
namespace Ab
open Go (IntKind BinOp UnOp)
def byt (s : List UInt8) (i : Nat) : Int := ((s.getD i 0).toNat : Int)
theorem pE {s i} : 0 ≤ byt s i := by unfold byt; omega
theorem byt_le {s i} : byt s i ≤ 255 := by unfold byt; have := (s.getD i 0).toNat_lt; omega
theorem idx_in {s : List UInt8} {k : IntKind} {i : Int} (h0 : 0 ≤ i) (h : i.toNat < s.length) : idxA (.p (.str s)) (.p (.int k i)) = some (.p (.int .u8 (byt s i.toNat))) := by
 simp only [idxA,h0,if_true,List.getElem?_eq_getElem h,Option.map_some,byt,List.getD_eq_getElem?_getD,Option.getD_some]
theorem map_add {k a b} : cR .add (.p (.int k a)) (.p (.int k b)) = some (.p (.int k (k.wrap (a + b)))) := by simp [cR,j9,fm]
theorem map_sub {k a b} : cR .sub (.p (.int k a)) (.p (.int k b)) = some (.p (.int k (k.wrap (a - b)))) := by simp [cR,j9,fm]
theorem map_mul {k a b} : cR .mul (.p (.int k a)) (.p (.int k b)) = some (.p (.int k (k.wrap (a * b)))) := by simp [cR,j9,fm]
theorem map_lss {k a b} : cR .lss (.p (.int k a)) (.p (.int k b)) = some (.p (.bool (decide (a < b)))) := by simp [cR,j9,fm]
theorem map_leq {k a b} : cR .leq (.p (.int k a)) (.p (.int k b)) = some (.p (.bool (decide (a ≤ b)))) := by simp [cR,j9,fm]
theorem map_gtr {k a b} : cR .gtr (.p (.int k a)) (.p (.int k b)) = some (.p (.bool (decide (b < a)))) := by simp [cR,j9,fm]
theorem map_geq {k a b} : cR .geq (.p (.int k a)) (.p (.int k b)) = some (.p (.bool (decide (b ≤ a)))) := by simp [cR,j9,fm]
theorem map_eql {k a b} : cR .eql (.p (.int k a)) (.p (.int k b)) = some (.p (.bool (decide (a = b)))) := by
 simp only [cR,j9,fm,true_or,if_true,Option.map_some,Option.some.injEq,AV.p.injEq,PV.bool.injEq]; rw [Bool.eq_iff_iff]; simp
theorem map_neq {k a b} : cR .neq (.p (.int k a)) (.p (.int k b)) = some (.p (.bool (decide (a ≠ b)))) := by
 simp only [cR,j9,fm,true_or,if_true,Option.map_some,Option.some.injEq,AV.p.injEq,PV.bool.injEq]; rw [Bool.eq_iff_iff]; simp
theorem map_seql {a b} : cR .eql (.p (.str a)) (.p (.str b)) = some (.p (.bool (decide (a = b)))) := by
 simp only [cR,j9,nh,Option.map_some,Option.some.injEq,AV.p.injEq,PV.bool.injEq]; rw [Bool.eq_iff_iff]; simp
theorem map_sneq {a b} : cR .neq (.p (.str a)) (.p (.str b)) = some (.p (.bool (decide (a ≠ b)))) := by
 simp only [cR,j9,nh,Option.map_some,Option.some.injEq,AV.p.injEq,PV.bool.injEq]; rw [Bool.eq_iff_iff]; simp
theorem map_sadd {a b : List UInt8} (h : a.length + b.length ≤ 9223372036854775807) : cR .add (.p (.str a)) (.p (.str b)) = some (.p (.str (a ++ b))) := by
 simp only [cR,j9,nh]; rw [if_pos (by unfold maxI; omega)]; rfl
theorem sl_in {s : List UInt8} {k1 k2 : IntKind} {a b : Int} (h0 : 0 ≤ a) (h1 : a ≤ b) (h2 : b ≤ s.length) : dv (.p (.str s)) (some (.p (.int k1 a))) (some (.p (.int k2 b))) = some (.p (.str ((s.take b.toNat).drop a.toNat))) := by
 simp only [dv,bound]
 rw [if_pos ⟨by omega,h2⟩,Option.bind_some,if_pos ⟨h0,by omega⟩,Option.map_some]
theorem sl_to {s : List UInt8} {k2 : IntKind} {b : Int} (h1 : 0 ≤ b) (h2 : b ≤ s.length) : dv (.p (.str s)) none (some (.p (.int k2 b))) = some (.p (.str (s.take b.toNat))) := by
 simp only [dv,bound]
 rw [if_pos ⟨by omega,h2⟩,Option.bind_some,Option.map_some,List.drop_zero]
theorem sl_from {s : List UInt8} {k2 : IntKind} {a : Int} (h1 : 0 ≤ a) (h2 : a ≤ s.length) : dv (.p (.str s)) (some (.p (.int k2 a))) none = some (.p (.str (s.drop a.toNat))) := by
 simp only [dv,bound]
 rw [Option.bind_some,if_pos ⟨by omega,h2⟩,Option.map_some,List.take_length]
theorem not_bool {b : Bool} : unA .not (.p (.bool b)) = some (.p (.bool (!b))) := rfl
def lk (b : Bool) (v : AV) (r : Env) (t : Nat) : AV := match b with | true => v | false => look r t
theorem zi {s t : Nat} {v : AV} {r : Env} : look ((s,v) :: r) t = lk (s == t) v r t := by
 unfold look lk
 by_cases h : s = t
 ·subst h; simp
 ·rw [if_neg h,beq_false_of_ne h]
theorem lk_t {v : AV} {r : Env} {t : Nat} : lk true v r t = v := rfl
theorem lk_f {v : AV} {r : Env} {t : Nat} : lk false v r t = look r t := rfl
theorem norm_f {live env H} : norm live none env H = some (prune live env,H) := rfl
def normG (H : Heap) (e : Env) (L : List Nat) : Option (Env × Heap) := match si (place L) e,Heap.pick H L with
  | some e',some H' => some (e',H')
  | _,_ => none
theorem norm_1 {live env H} : norm live (some 1) env H = normG H (prune live env) (ct H 64 (((prune live env).flatMap fun x => x.2.refs) ++ (H.take 1).flatMap Blk.refs) [0]) := rfl
theorem ifB_t {α : Type} {x : Option α} : ifB true x = x := rfl
theorem ifB_f {α : Type} {x : Option α} : ifB false x = none := rfl
def gy : Nat → List AV → Env
 | _,[] => []
 | n,a :: r => (n,a) :: gy (n + 1) r
theorem lh {args : List AV} : fw args = gy 0 args := by
 have key : ∀ (args : List AV) (k : Nat),((args.zipIdx k).map fun x => (x.2,x.1)) = gy k args := by
  intro args
  induction args with
  | nil => intro k; rfl
  | cons a r ih => intro k; rw [List.zipIdx_cons,List.map_cons,ih]; rfl
 exact key args 0
def Ends (rvs : List RV) (rs : List PV) : Out → Prop
 | (.ex _,_,_) => False
 | (_,e,h) => optP (mapO (RV.get e h) rvs) fun vs => mapO (aq h 4) vs = some rs
def endK (vs : Option (List AV)) (h : Heap) (rs : List PV) : Prop := optP vs fun vs => mapO (aq h 4) vs = some rs
theorem A9 {vs h rs} : endK (some vs) h rs ↔ mapO (aq h 4) vs = some rs := Iff.rfl
theorem Ends_nrm {rvs rs e h} : Ends rvs rs (.nrm,e,h) ↔ endK (mapO (RV.get e h) rvs) h rs := Iff.rfl
theorem Ends_ret {rvs rs e h} : Ends rvs rs (.ret,e,h) ↔ endK (mapO (RV.get e h) rvs) h rs := Iff.rfl
theorem get_slot {e h t} : RV.get e h (.slot t) = some (look e t) := rfl
theorem get_cell {e h t sz ag} : RV.get e h (.cell t sz ag) = eH h sz ag (look e t) := rfl
theorem BQ {H d v} : aq H d (.p v) = some v := by cases d <;> rfl
theorem sf {H d id n} : aq H (d + 1) (.own id n) = (rowOf H id n).map fun r => .sl .any r.1 r.2 := rfl
theorem ro {H d cs} : aq H (d + 1) (.agg cs) = (mapO (aq H d) cs).map .agg := rfl
theorem wi {H d id off} : aq H (d + 1) (.bx id off) = (bN H id).bind fun cs => if off < cs.length then (mapO (aq H d) (cs.drop off)).map .ptr else none := rfl
theorem vR {H d id n i off} (h : i < n) : aq H (d + 1) (.el id n i off) = (rowOf H id n).bind fun r => r.2[i]?.bind fun x => if off < x.cells.length then some (.ptr (x.cells.drop off)) else none := by
 simp only [aq]; rw [if_neg (by omega)]
theorem uK {H d id n i off} (h : n ≤ i) : aq H (d + 1) (.el id n i off) = (rowOf H id n).bind fun r => if i - n < n ∧ i - n ≤ off ∧ off ≤ n then some (.sl .mem r.1 ((r.2.take off).drop (i - n))) else none := by
 simp only [aq]; rw [if_pos h]
theorem sG {H d f cs} : aq H (d + 1) (.clo f cs) = (mapO (aq H d) cs).map (.clo f) := rfl
theorem uX {α β : Type} {f : α → Option β} : mapO f [] = some [] := rfl
theorem kL {α β : Type} {f : α → Option β} {c r} : mapO f (c :: r) = (f c).bind fun x => (mapO f r).map (x :: ·) := by
 simp only [mapO]
 cases f c with
 | none => rfl
 | some x => cases mapO f r <;> rfl
theorem aw {Γ : Ctx} {f : Nat} {fn : AFn} {args rs : List PV} (hf : Γ.fn f = some (.code fn)) (hl : args.length = fn.np)
  (h : Wp Γ fn.body (gy 0 (args.map .p)) [] (Ends fn.results rs)) : res Γ f args = some rs := by
 refine jl (RunP_of hf hl ?_)
 rw [lh]
 refine h.mono ?_
 rintro ⟨x,e,h⟩ ho
 cases x
 ·exact ⟨by simp,ho⟩
 ·exact ho.elim
 ·exact ⟨by simp,ho⟩
section
variable {Γ : Ctx} {env : Env} {H : Heap} {live : List Nat} {Q : Out → Prop} {r : List St} {dst : Option Nat} {c : Prop} [Decidable c] {op : QOp ⊕ XOp} {a b : Code}
theorem uP (h : c) : tf Γ (.p (.bool (decide c))) a b env H Q ↔ Wp Γ a env H Q := by rw [decide_eq_true h]; exact pq
theorem wj (h : ¬c) : tf Γ (.p (.bool (decide c))) a b env H Q ↔ Wp Γ b env H Q := by rw [decide_eq_false h]; exact oq
theorem fD (h1 : c → Wp Γ a env H Q) (h2 : ¬c → Wp Γ b env H Q) : tf Γ (.p (.bool (decide c))) a b env H Q := by
 by_cases h : c
 ·exact (uP h).2 (h1 h)
 ·exact (wj h).2 (h2 h)
theorem gd_pt (h : c) : gdK Γ (.p (.bool (decide c))) true dst op r env H live Q ↔ WpL Γ (⟨dst,none,op⟩ :: r) env H live Q := by rw [decide_eq_true h]; exact gdK_tt
theorem gd_nt (h : ¬c) : gdK Γ (.p (.bool (decide c))) true dst op r env H live Q ↔ WpL Γ r (put env dst .nov) H live Q := by rw [decide_eq_false h]; exact gdK_ft
theorem gd_pf (h : c) : gdK Γ (.p (.bool (decide c))) false dst op r env H live Q ↔ WpL Γ r (put env dst .nov) H live Q := by rw [decide_eq_true h]; exact gdK_tf
theorem gd_nf (h : ¬c) : gdK Γ (.p (.bool (decide c))) false dst op r env H live Q ↔ WpL Γ (⟨dst,none,op⟩ :: r) env H live Q := by rw [decide_eq_false h]; exact gdK_ff
theorem ly (h1 : c → WpL Γ (⟨dst,none,op⟩ :: r) env H live Q) (h2 : ¬c → WpL Γ r (put env dst .nov) H live Q) : gdK Γ (.p (.bool (decide c))) true dst op r env H live Q := by
 by_cases h : c
 ·exact (gd_pt h).2 (h1 h)
 ·exact (gd_nt h).2 (h2 h)
theorem lu (h1 : ¬c → WpL Γ (⟨dst,none,op⟩ :: r) env H live Q) (h2 : c → WpL Γ r (put env dst .nov) H live Q) : gdK Γ (.p (.bool (decide c))) false dst op r env H live Q := by
 by_cases h : c
 ·exact (gd_pf h).2 (h2 h)
 ·exact (gd_nf h).2 (h1 h)
theorem pick_pos {x y : AV} (h : c) : rL (.p (.bool (decide c))) x y = some x := by rw [decide_eq_true h]; rfl
theorem pick_neg {x y : AV} (h : ¬c) : rL (.p (.bool (decide c))) x y = some y := by rw [decide_eq_false h]; rfl
theorem pick_t {x y : AV} : rL (.p (.bool true)) x y = some x := rfl
theorem pick_f {x y : AV} : rL (.p (.bool false)) x y = some y := rfl
end
attribute [go_sem] uP wj gd_pt gd_nt gd_pf gd_nf wrap_i64
attribute [go_sem] W_seq W_ops W_cond Wp_block Wp_skip Wp_exit Wp_ret NxtC_nrm NxtC_ex NxtC_ret Ay A4 xR tE pq oq L_nil L_guard gdK_tt gdK_ff gdK_tf gdK_ft gdK_nov opK_some opX_some lpK_some L_mov L_pick L_nilchk L_bin L_eqk L_un L_strOf L_len L_idx L_fld L_faddr L_iaddr L_load L_sliceS L_slice L_build L_bslice L_ext L_mget L_isnil L_brow L_mkmap L_mset L_minmax L_clos L_alloc L_box L_store Bl L_newrow L_append L_copy Bj L_slicef L_call L_callf
attribute [go_sem] gy Ends_nrm Ends_ret A9 get_slot get_cell Arg.ev zi lk_t lk_f put prune norm_f norm_1 List.map_cons List.map_nil pick_t pick_f pick_pos pick_neg eS not_bool convA mK sameA extA A8 callee callR uX kL BQ sf ro vR uK sG List.append_nil List.nil_append List.cons_append idx_in map_add map_sub map_mul map_lss map_leq map_gtr map_geq map_eql map_neq map_seql map_sneq map_sadd sl_in sl_to sl_from aidxA fldA ju m8 boxA mJ tF kK mkAgg chunks results AV.cells PV.cells AV.ok AV.one PV.one AV.isP allP iC elOk eqsA eqkA eqK az ifB_t ifB_f flat Aj
attribute [go_sem] Nat.reduceEqDiff reduceCtorEq ite_false ite_true if_true if_false true_or or_true false_or or_false true_and and_true not_true_eq_false not_false_eq_true Option.map_some Option.map_none Option.bind_some Option.bind_none and_self Bool.false_eq_true Bool.not_true Bool.not_false Bool.true_and Bool.and_true Bool.or_true Bool.true_or Bool.false_or Bool.or_false Bool.and_false Bool.false_and x5 List.all_cons List.all_nil List.flatMap_cons List.flatMap_nil List.getElem?_cons_zero List.getElem?_cons_succ List.length_cons List.length_nil List.drop_zero List.take_zero List.set_cons_zero List.set_cons_succ
attribute [go_sem] Nat.reduceBEq Nat.reduceBNe Nat.reduceLeDiff Nat.reduceAdd Nat.reduceSub Nat.reduceMul Nat.reduceLT Int.reduceLT Int.reduceLE Int.reduceEq Int.reduceNe Int.reduceAdd Int.reduceSub Int.reduceMul Int.reduceNeg Int.reduceToNat Int.toNat_zero Int.toNat_one eq_self decide_true decide_false
end Ab
