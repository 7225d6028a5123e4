import Derived.Test.YthecbhbcjnajbaaGreatDoorAbCore
namespace Ab
theorem ifB_some {α : Type} {b : Bool} {x : Option α} {v : α} : ifB b x = some v ↔ b = true ∧ x = some v := by cases b <;> simp [ifB]
theorem callP_mono {c c' : CallF} (h : LeCall c c') {H f asX r} (e : callP c H f asX = some r) : callP c' H f asX = some r := by
 unfold callP at *
 simp only [Option.bind_eq_some_iff] at *
 obtain ⟨fc,h1,ps,h2,r',h3,h4⟩ := e
 exact ⟨fc,h1,ps,h2,r',h _ _ _ _ h3,h4⟩
theorem callRA_mono {c c' : CallF} (h : LeCall c c') {H f asX r} (e : callRA c H f asX = some r) : callRA c' H f asX = some r := by
 unfold callRA at *
 simp only [Option.bind_eq_some_iff] at *
 obtain ⟨fc,h1,ps,h2,r',h3,h4⟩ := e
 exact ⟨fc,h1,ps,h2,r',h _ _ _ _ h3,h4⟩
theorem evQ_mono {Γ : Ctx} {c c' : CallF} (h : LeCall c c') {σ H q v} (e : evQ Γ c σ H q = some v) : evQ Γ c' σ H q = some v := by
 cases q
 case call f args =>
  simp only [evQ,Option.bind_eq_some_iff] at *
  obtain ⟨rs,h1,h2⟩ := e
  exact ⟨rs,callP_mono h h1,h2⟩
 case callr f args =>
  simp only [evQ,Option.map_eq_some_iff] at *
  obtain ⟨rs,h1,h2⟩ := e
  exact ⟨rs,callRA_mono h h1,h2⟩
 all_goals exact e
theorem callS_mono {Γ : Ctx} {c c' : CallF} (h : LeCall c c') {H f asX r} (e : callS Γ c H f asX = some r) : callS Γ c' H f asX = some r := by
 unfold callS at *
 simp only [Option.bind_eq_some_iff,ifB_some] at *
 obtain ⟨fc,h1,hb,asX',h2,HL,h3,r',h4,h5⟩ := e
 exact ⟨fc,h1,hb,asX',h2,HL,h3,r',h _ _ _ _ h4,h5⟩
theorem callZ_mono {c c' : CallF} (h : LeCall c c') {H f asX r} (e : callZ c H f asX = some r) : callZ c' H f asX = some r := by
 unfold callZ at *
 simp only [Option.bind_eq_some_iff] at *
 obtain ⟨fc,h1,q,h2,r',h4,h5⟩ := e
 exact ⟨fc,h1,q,h2,r',h _ _ _ _ h4,h5⟩
theorem evX_mono {Γ : Ctx} {c c' : CallF} (h : LeCall c c') {σ H x v} (e : evX Γ c σ H x = some v) : evX Γ c' σ H x = some v := by
 cases x
 case callf f args =>
  simp only [evX,ifB_some,Option.map_eq_some_iff] at *
  obtain ⟨hc,rs,h1,h2⟩ := e
  exact ⟨hc,rs,callP_mono h h1,h2⟩
 case calls f args =>
  simp only [evX,Option.map_eq_some_iff] at *
  obtain ⟨r,h1,h2⟩ := e
  exact ⟨r,callS_mono h h1,h2⟩
 case callz f args =>
  simp only [evX,Option.map_eq_some_iff] at *
  obtain ⟨r,h1,h2⟩ := e
  exact ⟨r,callZ_mono h h1,h2⟩
 case callw f args =>
  simp only [evX,callW,Option.map_eq_some_iff,Option.bind_eq_some_iff,ifB_some] at *
  obtain ⟨r,⟨fc,hf,hk,h1⟩,h2⟩ := e
  exact ⟨r,⟨fc,hf,hk,h _ _ _ _ h1⟩,h2⟩
 case callwk f args ks =>
  simp only [evX,callwkA,callW,Option.map_eq_some_iff,Option.bind_eq_some_iff,ifB_some] at *
  obtain ⟨r,⟨r',⟨fc,hf,hk,h1⟩,h3,h4⟩,h2⟩ := e
  exact ⟨r,⟨r',⟨fc,hf,hk,h _ _ _ _ h1⟩,h3,h4⟩,h2⟩
 case callk f args ks =>
  simp only [evX,callkA,Option.map_eq_some_iff,Option.bind_eq_some_iff,ifB_some] at *
  obtain ⟨r,⟨fc,hf,hk,h1⟩,h2⟩ := e
  exact ⟨r,⟨fc,hf,hk,callS_mono h h1⟩,h2⟩
 case pureq q =>
  simp only [evX,Option.map_eq_some_iff] at *
  obtain ⟨r,h1,h2⟩ := e
  exact ⟨r,evQ_mono h h1,h2⟩
 case treeq q =>
  simp only [evX,Option.bind_eq_some_iff] at *
  obtain ⟨r,h1,h2⟩ := e
  exact ⟨r,evQ_mono h h1,h2⟩
 all_goals exact e
theorem evSts_mono {Γ : Ctx} {c c' : CallF} (h : LeCall c c') : ∀ {l env H r},evSts Γ c l env H = some r → evSts Γ c' l env H = some r
 | [],_,_,_,e => e
 | s :: l,env,H,r,e => by
  simp only [evSts] at *
  cases hw : wanted (look env) s.g with
  | none => simp [hw] at e
  | some b =>
   cases b with
   | false => simp only [hw] at e ⊢; exact evSts_mono h e
   | true =>
    simp only [hw] at e ⊢
    cases ho : s.op with
    | inl q =>
     simp only [ho] at e ⊢
     cases hq : evQ Γ c (look env) H q with
     | none => simp [hq] at e
     | some v => simp only [hq] at e; simp only [evQ_mono h hq]; exact evSts_mono h e
    | inr x =>
     simp only [ho] at e ⊢
     cases hq : evX Γ c (look env) H x with
     | none => simp [hq] at e
     | some v => simp only [hq] at e; simp only [evX_mono h hq]; exact evSts_mono h e
abbrev RunF := Code → Env → Heap → Option Out
def LeRun (c c' : RunF) : Prop := ∀ f a H r,c f a H = some r → c' f a H = some r
theorem runI_mono {Γ : Ctx} {c c' : RunF} (h : LeRun c c') {f : Nat} {asX : List PV} {n : Int} (e : runI Γ c f asX = some n) : runI Γ c' f asX = some n := by
 unfold runI at *
 split at e
 ·split at e
  ·rename_i hl
   rw [if_pos hl]
   split at e
   ·cases e
   ·rename_i x env' H' hno ho
    rw [h _ _ _ _ ho]
    cases x with
    | nrm => exact e
    | ret => exact e
    | ex i => exact (hno i rfl).elim
   ·cases e
  ·cases e
 ·cases e
theorem runIs_mono {Γ : Ctx} {c c' : RunF} (h : LeRun c c') {f : Nat} : ∀ {ps : List (List PV × Int)},runIs Γ c f ps = true → runIs Γ c' f ps = true
 | [],_ => rfl
 | p :: r,e => by
  simp only [runIs,Bool.and_eq_true,beq_iff_eq] at e ⊢
  exact ⟨runI_mono h e.1,runIs_mono h e.2⟩
theorem callC_mono {Γ : Ctx} {c c' : RunF} (h : LeRun c c') : LeCall (callC Γ c) (callC Γ c') := by
 intro f a H r e
 unfold callC at *
 split at e
 ·exact e
 ·split at e
  ·rename_i hl
   rw [if_pos hl]
   split at e
   ·cases e
   ·rename_i x env' H' hno ho
    rw [h _ _ _ _ ho]
    cases x with
    | nrm => exact e
    | ret => exact e
    | ex i => exact (hno i rfl).elim
   ·cases e
  ·cases e
 ·cases e
theorem callOf_mono {Γ : Ctx} {c c' : RunF} (h : LeRun c c') : LeCall (callOf Γ c) (callOf Γ c') := by
 intro f a H r e
 unfold callOf at *
 cases hf : Γ.fn f with
 | none => simp [hf] at e
 | some fn =>
  cases fn with
  | prim g => simp only [hf] at e ⊢; exact e
  | fresh g => simp only [hf] at e ⊢; exact e
  | upd g => simp only [hf] at e ⊢; exact e
  | look g => simp only [hf] at e ⊢; exact e
  | hi g => simp only [hf] at e ⊢; exact g.mono _ _ (callC_mono h) _ _ _ e
  | lookc k q g =>
   simp only [hf] at e ⊢
   split at e
   ·split at e
    ·split at e
     ·rename_i hc
      rw [if_pos (runIs_mono h hc)]; exact e
     ·cases e
    ·cases e
   ·cases e
  | code fn =>
   simp only [hf] at e ⊢
   split at e
   ·rename_i hl
    rw [if_pos hl]
    cases hr : c fn.body (initEnv a) H with
    | none => simp [hr] at e
    | some o => rw [hr] at e; rw [h _ _ _ _ hr]; exact e
   ·cases e
theorem ev_succ {Γ : Ctx} : ∀ n,LeRun (ev Γ n) (ev Γ (n + 1)) := by
 intro n
 induction n with
 | zero => intro c env H r e; simp [ev] at e
 | succ n ih =>
  intro c env H r e
  cases c with
  | skip => exact e
  | exit => exact e
  | bad => exact e
  | ret => exact e
  | ops live l =>
   simp only [ev,Option.map_eq_some_iff] at *
   obtain ⟨x,h1,h2⟩ := e
   exact ⟨x,evSts_mono (callOf_mono ih) h1,h2⟩
  | seq a b =>
   rw [ev] at e ⊢
   cases ha : ev Γ n a env H with
   | none => simp [ha] at e
   | some o =>
    rw [ih _ _ _ _ ha]
    rw [ha] at e
    obtain ⟨x,env',H'⟩ := o
    cases x <;> simp only at e ⊢
    ·exact ih _ _ _ _ e
    ·exact e
    ·exact e
  | cond c a b =>
   rw [ev] at e ⊢
   split at e
   ·rename_i t ht
    cases t
    ·exact ih _ _ _ _ e
    ·exact ih _ _ _ _ e
   ·cases e
  | block live id c =>
   rw [ev] at e ⊢
   cases ha : ev Γ n c env H with
   | none => simp [ha] at e
   | some o => rw [ih _ _ _ _ ha]; rw [ha] at e; exact e
  | loop live gc c =>
   rw [ev] at e ⊢
   cases hn : norm live gc env H with
   | none => simp [hn] at e
   | some eh =>
    simp only [hn] at e ⊢
    cases ha : ev Γ n c eh.1 eh.2 with
    | none => simp [ha] at e
    | some o =>
     rw [ih _ _ _ _ ha]
     rw [ha] at e
     obtain ⟨x,env',H'⟩ := o
     cases x <;> simp only at e ⊢
     ·exact ih _ _ _ _ e
     ·exact e
     ·exact e
theorem ev_le {Γ : Ctx} {n m} (h : n ≤ m) : LeRun (ev Γ n) (ev Γ m) := by
 induction h with
 | refl => exact fun _ _ _ _ e => e
 | step _ ih => exact fun _ _ _ _ e => ev_succ _ _ _ _ _ (ih _ _ _ _ e)
theorem call_le {Γ : Ctx} {n m} (h : n ≤ m) : LeCall (callOf Γ (ev Γ n)) (callOf Γ (ev Γ m)) := callOf_mono (ev_le h)
def Wp (Γ : Ctx) (c : Code) (env : Env) (H : Heap) (Q : Out → Prop) : Prop := ∃ n o,ev Γ n c env H = some o ∧ Q o
def WpS (Γ : Ctx) (l : List St) (env : Env) (H : Heap) (Q : Env → Heap → Prop) : Prop := ∃ n r,evSts Γ (callOf Γ (ev Γ n)) l env H = some r ∧ Q r.1 r.2
def RunP (Γ : Ctx) (f : Nat) (args rs : List PV) : Prop := ∃ n r,callOf Γ (ev Γ n) f (args.map .p) [] = some r ∧ mapO (reify r.2 4) r.1 = some rs
theorem Wp.mono {Γ c env H} {Q Q' : Out → Prop} (h : Wp Γ c env H Q) (hq : ∀ o,Q o → Q' o) : Wp Γ c env H Q' :=
 let ⟨n,o,h1,h2⟩ := h; ⟨n,o,h1,hq _ h2⟩
theorem Wp_skip {Γ env H Q} : Wp Γ .skip env H Q ↔ Q (.nrm,env,H) := by
 constructor
 ·rintro ⟨n,o,h1,h2⟩
  cases n with
  | zero => simp [ev] at h1
  | succ n => simp only [ev,Option.some.injEq] at h1; subst h1; exact h2
 ·exact fun h => ⟨1,_,rfl,h⟩
theorem Wp_ret {Γ env H Q} : Wp Γ .ret env H Q ↔ Q (.ret,env,H) := by
 constructor
 ·rintro ⟨n,o,h1,h2⟩
  cases n with
  | zero => simp [ev] at h1
  | succ n => simp only [ev,Option.some.injEq] at h1; subst h1; exact h2
 ·exact fun h => ⟨1,_,rfl,h⟩
theorem Wp_ops {Γ live l env H Q} : Wp Γ (.ops live l) env H Q ↔ WpS Γ l env H fun e h => Q (.nrm,prune live e,h) := by
 constructor
 ·rintro ⟨n,o,h1,h2⟩
  cases n with
  | zero => simp [ev] at h1
  | succ n =>
   simp only [ev,Option.map_eq_some_iff] at h1
   obtain ⟨r,h3,rfl⟩ := h1
   exact ⟨n,r,h3,h2⟩
 ·rintro ⟨n,r,h1,h2⟩
  exact ⟨n + 1,_,by simp only [ev,h1]; rfl,h2⟩
def Nxt (Q : Out → Prop) (K : Env → Heap → Prop) : Out → Prop
 | (.nrm,e,h) => K e h
 | o => Q o
def InBlk (live : List Nat) (id : Nat) (Q : Out → Prop) : Out → Prop
 | (.nrm,e,h) => Q (.nrm,prune live e,h)
 | (.ex i,e,h) => if i = id then Q (.nrm,prune live e,h) else Q (.ex i,e,h)
 | o => Q o
theorem InBlk_nrm {live id Q e h} : InBlk live id Q (.nrm,e,h) ↔ Q (.nrm,prune live e,h) := Iff.rfl
theorem InBlk_ret {live id Q e h} : InBlk live id Q (.ret,e,h) ↔ Q (.ret,e,h) := Iff.rfl
theorem Wp_seq {Γ a b env H Q} : Wp Γ (.seq a b) env H Q ↔ Wp Γ a env H (Nxt Q fun e h => Wp Γ b e h Q) := by
 constructor
 ·rintro ⟨n,o,h1,h2⟩
  cases n with
  | zero => simp [ev] at h1
  | succ n =>
   rw [ev] at h1
   cases ha : ev Γ n a env H with
   | none => simp [ha] at h1
   | some x =>
    rw [ha] at h1
    obtain ⟨y,e,h⟩ := x
    refine ⟨n,_,ha,?_⟩
    cases y <;> simp only [Nxt] at h1 ⊢
    ·exact ⟨n,o,h1,h2⟩
    all_goals (simp only [Option.some.injEq] at h1; subst h1; exact h2)
 ·rintro ⟨n,⟨y,e,h⟩,h1,h2⟩
  cases y
  ·obtain ⟨m,o,h3,h4⟩ := h2
   refine ⟨max n m + 1,o,?_,h4⟩
   rw [ev,ev_le (Nat.le_max_left n m) _ _ _ _ h1]
   exact ev_le (Nat.le_max_right n m) _ _ _ _ h3
  all_goals exact ⟨n + 1,_,by rw [ev,h1],h2⟩
theorem Wp_block {Γ live id c env H Q} : Wp Γ (.block live id c) env H Q ↔ Wp Γ c env H (InBlk live id Q) := by
 constructor
 ·rintro ⟨n,o,h1,h2⟩
  cases n with
  | zero => simp [ev] at h1
  | succ n =>
   rw [ev] at h1
   cases ha : ev Γ n c env H with
   | none => simp [ha] at h1
   | some x =>
    rw [ha] at h1
    obtain ⟨y,e,h⟩ := x
    refine ⟨n,_,ha,?_⟩
    cases y <;> simp only [InBlk] at h1 ⊢
    case ex i =>
     split at h1 <;> rename_i hi <;> simp only [Option.some.injEq] at h1 <;> subst h1
     ·rw [if_pos hi]; exact h2
     ·rw [if_neg hi]; exact h2
    all_goals (simp only [Option.some.injEq] at h1; subst h1; exact h2)
 ·rintro ⟨n,⟨y,e,h⟩,h1,h2⟩
  cases y
  case ex i =>
   simp only [InBlk] at h2
   refine ⟨n + 1,if i = id then (.nrm,prune live e,h) else (.ex i,e,h),by rw [ev,h1]; simp only; split <;> rfl,?_⟩
   split at h2 <;> rename_i hi
   ·rw [if_pos hi]; exact h2
   ·rw [if_neg hi]; exact h2
  all_goals exact ⟨n + 1,_,by rw [ev,h1],h2⟩
def condP (v : AV) (A B : Prop) : Prop :=
 match v with
 | .p (.bool t) => if t = true then A else B
 | _ => False
theorem Wp_cond {Γ x a b env H Q} : Wp Γ (.cond x a b) env H Q ↔ condP (x.ev Γ (look env)) (Wp Γ a env H Q) (Wp Γ b env H Q) := by
 constructor
 ·rintro ⟨n,o,h1,h2⟩
  cases n with
  | zero => simp [ev] at h1
  | succ n =>
   rw [ev] at h1
   split at h1
   ·rename_i t ht
    rw [ht]
    cases t
    ·exact ⟨n,o,h1,h2⟩
    ·exact ⟨n,o,h1,h2⟩
   ·cases h1
 ·intro h
  unfold condP at h
  split at h
  ·rename_i t ht
   cases t
   ·obtain ⟨n,o,h1,h2⟩ := h
    exact ⟨n + 1,o,by rw [ev,ht]; exact h1,h2⟩
   ·obtain ⟨n,o,h1,h2⟩ := h
    exact ⟨n + 1,o,by rw [ev,ht]; exact h1,h2⟩
  ·cases h
def optP {α : Type} (x : Option α) (K : α → Prop) : Prop := match x with | some v => K v | none => False
theorem optP_iff {α : Type} {x : Option α} {K : α → Prop} : optP x K ↔ ∃ v,x = some v ∧ K v := by cases x <;> simp [optP]
theorem WpS_nil {Γ env H Q} : WpS Γ [] env H Q ↔ Q env H :=
 ⟨fun ⟨_,_,h1,h2⟩ => by simp only [evSts,Option.some.injEq] at h1; subst h1; exact h2,fun h => ⟨0,_,rfl,h⟩⟩
def WpO (Γ : Ctx) (o : QOp ⊕ XOp) (env : Env) (H : Heap) (K : AV → Heap → Prop) : Prop :=
 ∃ n,match o with
  | .inl q => optP (evQ Γ (callOf Γ (ev Γ n)) (look env) H q) fun v => K v H
  | .inr x => optP (evX Γ (callOf Γ (ev Γ n)) (look env) H x) fun r => K r.1 r.2
def gd (x : Option Bool) (A B : Prop) : Prop :=
 match x with
 | some t => if t = true then B else A
 | none => False
theorem gd_some {t A B} : gd (some t) A B ↔ if t = true then B else A := Iff.rfl
theorem WpS_cons {Γ dst g o r env H Q} : WpS Γ (⟨dst,g,o⟩ :: r) env H Q ↔
  gd (wanted (look env) g) (WpS Γ r (put env dst .nov) H Q) (WpO Γ o env H fun v H' => WpS Γ r (put env dst v) H' Q) := by
 constructor
 ·rintro ⟨n,x,h1,h2⟩
  simp only [evSts] at h1
  cases hw : wanted (look env) g with
  | none => simp [hw] at h1
  | some b =>
   cases b with
   | false => simp only [hw] at h1; exact ⟨n,x,h1,h2⟩
   | true =>
    simp only [hw] at h1
    refine ⟨n,?_⟩
    cases o with
    | inl q =>
     simp only at h1 ⊢
     cases hq : evQ Γ (callOf Γ (ev Γ n)) (look env) H q with
     | none => simp [hq] at h1
     | some v => simp only [hq] at h1; exact ⟨n,x,h1,h2⟩
    | inr q =>
     simp only at h1 ⊢
     cases hq : evX Γ (callOf Γ (ev Γ n)) (look env) H q with
     | none => simp [hq] at h1
     | some v => simp only [hq] at h1; exact ⟨n,x,h1,h2⟩
 ·intro h
  cases hw : wanted (look env) g with
  | none => rw [hw] at h; exact h.elim
  | some b =>
   rw [hw] at h
   cases b with
   | false =>
    obtain ⟨n,x,h1,h2⟩ := h
    exact ⟨n,x,by simp only [evSts,hw]; exact h1,h2⟩
   | true =>
    obtain ⟨n,h⟩ := h
    cases o with
    | inl q =>
     simp only [optP_iff] at h
     obtain ⟨v,hq,m,x,h1,h2⟩ := h
     refine ⟨max n m,x,?_,h2⟩
     simp only [evSts,hw,evQ_mono (call_le (Nat.le_max_left n m)) hq]
     exact evSts_mono (call_le (Nat.le_max_right n m)) h1
    | inr q =>
     simp only [optP_iff] at h
     obtain ⟨v,hq,m,x,h1,h2⟩ := h
     refine ⟨max n m,x,?_,h2⟩
     simp only [evSts,hw,evX_mono (call_le (Nat.le_max_left n m)) hq]
     exact evSts_mono (call_le (Nat.le_max_right n m)) h1
def noCall : CallF := fun _ _ _ => none
theorem optP_const {α : Type} {x : Nat → Option α} {y : Option α} (h : ∀ n,x n = y) {K : α → Prop} : (∃ n,optP (x n) K) ↔ optP y K := by
 simp only [h]
 exact ⟨fun ⟨_,h⟩ => h,fun h => ⟨0,h⟩⟩
def QOp.plain : QOp → Bool
 | .call _ _ | .callr _ _ => false
 | _ => true
def XOp.plain : XOp → Bool
 | .callf _ _ | .calls _ _ | .callz _ _ | .callw _ _ | .callwk _ _ _ | .callk _ _ _ | .pureq _ | .treeq _ => false
 | _ => true
theorem WpO_q {Γ q env H K} (h : q.plain = true) : WpO Γ (.inl q) env H K ↔ optP (evQ Γ noCall (look env) H q) fun v => K v H :=
 optP_const fun n => by cases q <;> first | rfl | cases h
theorem WpO_x {Γ x env H K} (h : x.plain = true) : WpO Γ (.inr x) env H K ↔ optP (evX Γ noCall (look env) H x) fun r => K r.1 r.2 :=
 optP_const fun n => by cases x <;> first | rfl | cases h
section
variable {Γ : Ctx} {env : Env} {H : Heap} {K : AV → Heap → Prop}
end
theorem RunP_of {Γ : Ctx} {f : Nat} {fn : AFn} {args rs : List PV} (hf : Γ.fn f = some (.code fn)) (hl : args.length = fn.np)
  (h : Wp Γ fn.body (initEnv (args.map .p)) [] fun o => (∀ i,o.1 ≠ .ex i) ∧ optP (mapO (RV.get o.2.1 o.2.2) fn.results) fun vs => mapO (reify o.2.2 4) vs = some rs) : RunP Γ f args rs := by
 obtain ⟨n,⟨x,e,H⟩,h1,h2,h3⟩ := h
 rw [optP_iff] at h3
 obtain ⟨vs,h4,h5⟩ := h3
 refine ⟨n,(vs,H),?_,h5⟩
 unfold callOf
 rw [hf]
 simp only [List.length_map,hl,if_true,h1]
 cases x
 ·simp only [h4]
 ·exact absurd rfl (h2 _)
 ·simp only [h4]
end Ab
namespace Ab
open Go (IntKind BinOp UnOp)
theorem wrap_i64 {x : Int} (h0 : -9223372036854775808 ≤ x) (h1 : x ≤ 9223372036854775807) : IntKind.i64.wrap x = x := by
 simp only [IntKind.wrap,IntKind.bits,IntKind.signed,Bool.true_and,decide_eq_true_eq,ge_iff_le]
 have e : (2 : Int) ^ 64 = 18446744073709551616 := by decide
 have e2 : (2 : Int) ^ (64 - 1) = 9223372036854775808 := by decide
 rw [e,e2]
 split <;> omega
end Ab
namespace Ab
open Go (IntKind BinOp UnOp)
theorem RunP_det {Γ : Ctx} {f : Nat} {ps rs rs' : List PV} (h : RunP Γ f ps rs) (h' : RunP Γ f ps rs') : rs = rs' := by
 obtain ⟨n,r,h1,h2⟩ := h
 obtain ⟨m,r',h3,h4⟩ := h'
 have e1 := call_le (Nat.le_max_left n m) _ _ _ _ h1
 have e2 := call_le (Nat.le_max_right n m) _ _ _ _ h3
 rw [e1] at e2
 cases e2
 rw [h2] at h4
 cases h4
 rfl
open Classical in
noncomputable def res (Γ : Ctx) (f : Nat) (ps : List PV) : Option (List PV) := if h : ∃ rs,RunP Γ f ps rs then some h.choose else none
theorem res_of {Γ f ps rs} (h : RunP Γ f ps rs) : res Γ f ps = some rs := by
 have h' : ∃ rs,RunP Γ f ps rs := ⟨_,h⟩
 unfold res
 rw [dif_pos h']
 exact congrArg some (RunP_det h'.choose_spec h)
theorem of_res {Γ f ps rs} (h : res Γ f ps = some rs) : RunP Γ f ps rs := by
 unfold res at h
 split at h
 ·rename_i h'
  cases h
  exact h'.choose_spec
 ·cases h
def WpL (Γ : Ctx) (l : List St) (env : Env) (H : Heap) (live : List Nat) (Q : Out → Prop) : Prop := WpS Γ l env H fun e h => Q (.nrm,prune live e,h)
def NxtC (Γ : Ctx) (b : Code) (Q : Out → Prop) : Out → Prop
 | (.nrm,e,h) => Wp Γ b e h Q
 | o => Q o
def condC (Γ : Ctx) (v : AV) (a b : Code) (env : Env) (H : Heap) (Q : Out → Prop) : Prop := condP v (Wp Γ a env H Q) (Wp Γ b env H Q)
def opK (Γ : Ctx) (x : Option AV) (dst : Option Nat) (r : List St) (env : Env) (H : Heap) (live : List Nat) (Q : Out → Prop) : Prop := optP x fun v => WpL Γ r (put env dst v) H live Q
def opX (Γ : Ctx) (x : Option (AV × Heap)) (dst : Option Nat) (r : List St) (env : Env) (live : List Nat) (Q : Out → Prop) : Prop := optP x fun y => WpL Γ r (put env dst y.1) y.2 live Q
def gdK (Γ : Ctx) (v : AV) (b : Bool) (dst : Option Nat) (op : QOp ⊕ XOp) (r : List St) (env : Env) (H : Heap) (live : List Nat) (Q : Out → Prop) : Prop :=
 gd (match v with | .p (.bool c) => some (c == b) | .nov => some false | _ => none) (WpL Γ r (put env dst .nov) H live Q) (WpL Γ (⟨dst,none,op⟩ :: r) env H live Q)
def lpK (Γ : Ctx) (c L : Code) (x : Option (Env × Heap)) (Q : Out → Prop) : Prop := optP x fun eh => Wp Γ c eh.1 eh.2 (NxtC Γ L Q)
section
variable {Γ : Ctx} {env : Env} {H : Heap} {live : List Nat} {Q : Out → Prop} {r : List St} {dst : Option Nat}
theorem W_seq {a b} : Wp Γ (.seq a b) env H Q ↔ Wp Γ a env H (NxtC Γ b Q) := Wp_seq
theorem NxtC_nrm {b e h} : NxtC Γ b Q (.nrm,e,h) ↔ Wp Γ b e h Q := Iff.rfl
theorem NxtC_ex {b i e h} : NxtC Γ b Q (.ex i,e,h) ↔ Q (.ex i,e,h) := Iff.rfl
theorem NxtC_ret {b e h} : NxtC Γ b Q (.ret,e,h) ↔ Q (.ret,e,h) := Iff.rfl
theorem W_ops {l} : Wp Γ (.ops live l) env H Q ↔ WpL Γ l env H live Q := Wp_ops
theorem W_cond {x a b} : Wp Γ (.cond x a b) env H Q ↔ condC Γ (x.ev Γ (look env)) a b env H Q := Wp_cond
theorem condC_true {a b} : condC Γ (.p (.bool true)) a b env H Q ↔ Wp Γ a env H Q := Iff.rfl
theorem condC_false {a b} : condC Γ (.p (.bool false)) a b env H Q ↔ Wp Γ b env H Q := by simp [condC,condP]
theorem L_nil : WpL Γ [] env H live Q ↔ Q (.nrm,prune live env,H) := WpS_nil
theorem L_guard {t b op} : WpL Γ (⟨dst,some (t,b),op⟩ :: r) env H live Q ↔ gdK Γ (look env t) b dst op r env H live Q := by
 unfold WpL gdK
 rw [WpS_cons,wanted,WpL,WpL,WpS_cons,wanted,gd_some,if_pos rfl]
 cases look env t with
 | p v => cases v <;> exact Iff.rfl
 | _ => exact Iff.rfl
theorem gdK_tt {op} : gdK Γ (.p (.bool true)) true dst op r env H live Q ↔ WpL Γ (⟨dst,none,op⟩ :: r) env H live Q := by simp [gdK,gd]
theorem opK_some {v} : opK Γ (some v) dst r env H live Q ↔ WpL Γ r (put env dst v) H live Q := Iff.rfl
theorem opX_some {v H'} : opX Γ (some (v,H')) dst r env live Q ↔ WpL Γ r (put env dst v) H' live Q := Iff.rfl
theorem L_of {o} : WpL Γ (⟨dst,none,o⟩ :: r) env H live Q ↔ WpO Γ o env H fun v H' => WpL Γ r (put env dst v) H' live Q := by
 unfold WpL
 rw [WpS_cons,wanted,gd_some,if_pos rfl]
theorem lpK_some {c L e h} : lpK Γ c L (some (e,h)) Q ↔ Wp Γ c e h (NxtC Γ L Q) := Iff.rfl
theorem L_mov {x} : WpL Γ (⟨dst,none,.inl (.mov x)⟩ :: r) env H live Q ↔ opK Γ (some (Arg.ev Γ (look env) x)) dst r env H live Q := L_of.trans (WpO_q rfl)
theorem L_pick {c a b} : WpL Γ (⟨dst,none,.inl (.pick c a b)⟩ :: r) env H live Q ↔ opK Γ (pickA (Arg.ev Γ (look env) c) (Arg.ev Γ (look env) a) (Arg.ev Γ (look env) b)) dst r env H live Q := L_of.trans (WpO_q rfl)
theorem L_bin {op x y} : WpL Γ (⟨dst,none,.inl (.bin op x y)⟩ :: r) env H live Q ↔ opK Γ (binAV op (Arg.ev Γ (look env) x) (Arg.ev Γ (look env) y)) dst r env H live Q := L_of.trans (WpO_q rfl)
theorem L_eqk {kd neg x y} : WpL Γ (⟨dst,none,.inl (.eqk kd neg x y)⟩ :: r) env H live Q ↔ opK Γ (eqkA kd neg (Arg.ev Γ (look env) x) (Arg.ev Γ (look env) y)) dst r env H live Q := L_of.trans (WpO_q rfl)
theorem L_len {s x} : WpL Γ (⟨dst,none,.inl (.len s x)⟩ :: r) env H live Q ↔ opK Γ ((asLen H s (Arg.ev Γ (look env) x)).map fun (n : Nat) => AV.p (.int .i64 (n : Int))) dst r env H live Q := L_of.trans (WpO_q rfl)
theorem L_load {sz ag x} : WpL Γ (⟨dst,none,.inl (.load sz ag x)⟩ :: r) env H live Q ↔ opK Γ (loadA H sz ag (Arg.ev Γ (look env) x)) dst r env H live Q := L_of.trans (WpO_q rfl)
theorem L_build {zero parts} : WpL Γ (⟨dst,none,.inl (.build zero parts)⟩ :: r) env H live Q ↔ opK Γ ((fillA (zero.map .p) (parts.map fun q => (q.off,q.sz,Arg.ev Γ (look env) q.arg))).map mkAgg) dst r env H live Q := L_of.trans (WpO_q rfl)
theorem L_ext {x i} : WpL Γ (⟨dst,none,.inl (.ext x i)⟩ :: r) env H live Q ↔ opK Γ (extA i (Arg.ev Γ (look env) x)) dst r env H live Q := L_of.trans (WpO_q rfl)
theorem L_alloc {zero} : WpL Γ (⟨dst,none,.inr (.alloc zero)⟩ :: r) env H live Q ↔ opX Γ (some (.bx H.length 0,H ++ [.box (zero.map .p)])) dst r env live Q := L_of.trans (WpO_x rfl)
theorem L_store {sz x v} : WpL Γ (⟨dst,none,.inr (.store sz x v)⟩ :: r) env H live Q ↔ opX Γ ((storeA H sz (Arg.ev Γ (look env) x) (Arg.ev Γ (look env) v)).map fun H' => (AV.nov,H')) dst r env live Q := L_of.trans (WpO_x rfl)
noncomputable def callR (Γ : Ctx) (H : Heap) (f : AV) (asX : List AV) : Option (List PV) := (callee f).bind fun fc => (mapO (reify H 4) (asX ++ fc.2)).bind (res Γ fc.1)
theorem callR_spec {f : AV} {asX : List AV} {rs : List PV} (h : callR Γ H f asX = some rs) : ∃ n,callP (callOf Γ (ev Γ n)) H f asX = some rs := by
 unfold callR at h
 obtain ⟨fc,h1,h⟩ := Option.bind_eq_some_iff.1 h
 obtain ⟨ps,h2,h⟩ := Option.bind_eq_some_iff.1 h
 obtain ⟨n,r,h3,h4⟩ := of_res h
 exact ⟨n,by simp only [callP,h1,Option.bind_some,h2,h3,h4]⟩
theorem callR_of {f : AV} {asX : List AV} {rs : List PV} {n : Nat} (h : callP (callOf Γ (ev Γ n)) H f asX = some rs) : callR Γ H f asX = some rs := by
 unfold callP at h
 obtain ⟨fc,h1,h⟩ := Option.bind_eq_some_iff.1 h
 obtain ⟨ps,h2,h⟩ := Option.bind_eq_some_iff.1 h
 obtain ⟨r,h3,h4⟩ := Option.bind_eq_some_iff.1 h
 simp only [callR,h1,h2,Option.bind_some]
 exact res_of ⟨n,r,h3,h4⟩
theorem L_call {f args} : WpL Γ (⟨dst,none,.inl (.call f args)⟩ :: r) env H live Q ↔ opK Γ ((callR Γ H (Arg.ev Γ (look env) f) (args.map (Arg.ev Γ (look env)))).bind fun rs =>
      ifB (allP (args.map (Arg.ev Γ (look env))) && (Arg.ev Γ (look env) f).isP || rs.all flat) (some (results (rs.map .p)))) dst r env H live Q := by
  rw [L_of]
  unfold opK WpO
  constructor
  · rintro ⟨n,h⟩
    dsimp only at h
    rw [optP_iff] at h ⊢
    obtain ⟨v,h1,h2⟩ := h
    simp only [evQ] at h1
    obtain ⟨rs,h3,h4⟩ := Option.bind_eq_some_iff.1 h1
    exact ⟨v,by rw [callR_of h3]; exact h4,h2⟩
  · intro h
    rw [optP_iff] at h
    obtain ⟨v,h1,h2⟩ := h
    obtain ⟨rs,h3,h4⟩ := Option.bind_eq_some_iff.1 h1
    obtain ⟨n,h5⟩ := callR_spec h3
    refine ⟨n,?_⟩
    simp only [evQ,h5,Option.bind_some,h4]
    exact h2
end
end Ab
namespace Ab
open Go (IntKind BinOp UnOp)
def ixB : List UInt8 → UInt8 → Int
 | [],_ => -1
 | b :: l,c => if b == c then 0 else if ixB l c == -1 then -1 else ixB l c + 1
def indexByteG : List PV → Option (List PV)
 | [.str s,.int .u8 c] => some [.int .i64 (ixB s c.toNat.toUInt8)]
 | _ => none
def countG : List PV → Option (List PV)
 | [.str s,.int .u8 c] => some [.int .i64 (s.count c.toNat.toUInt8 : Nat)]
 | _ => none
def joinB (sep : List UInt8) : List (List UInt8) → List UInt8
 | [] => []
 | [s] => s
 | s :: r => s ++ sep ++ joinB sep r
def zero256 : List PV := List.replicate 256 (.bool false)
def insB (s : List UInt8) : List (List UInt8) → List (List UInt8)
 | [] => [s]
 | t :: r => if bytesLess t s then t :: insB s r else s :: t :: r
def sortB : List (List UInt8) → List (List UInt8)
 | [] => []
 | s :: r => insB s (sortB r)
def strKeysIn : List (PV × AV) → Option (List (List UInt8))
 | [] => some []
 | (.str s,_) :: r => if s.length ≤ lim then (strKeysIn r).map (s :: ·) else none
 | _ => none
def rowS (l : List (List UInt8)) : PV :=
 match l with
 | [] => .sl .nil 1 []
 | s :: r => .sl .any 1 ((s :: r).map .str)
def keysV (H : Heap) : List AV → Option (List PV)
 | [.mp id] => (mapOf H id).bind fun es => (strKeysIn es).bind fun ss => if es.length ≤ lim then some [rowS (sortB ss)] else none
 | [.p .nilmap] => some [.sl .nil 1 []]
 | _ => none
def keysG (Ks : List Nat) : List AV → Heap → Option (List PV)
 | [.clo k [.bx b 0]],H => if Ks.contains k = true then (boxOf H b).bind (keysV H) else none
 | _,_ => none
def replB (a b : UInt8) (s : List UInt8) : List UInt8 := s.map fun c => if c = a then b else c
def replG : List PV → Option (List PV)
 | [.str s,.str [a],.str [b]] => if s.length ≤ 1000000000 then some [.str (replB a b s)] else none
 | _ => none
def byteIn : List PV → Option (List UInt8)
 | [] => some []
 | .int .u8 n :: r => if 0 ≤ n ∧ n < 256 then (byteIn r).map (UInt8.ofNat n.toNat :: ·) else none
 | _ => none
def byteP (l : List UInt8) : List PV := l.map fun b => .int .u8 b.toNat
def rowsIn : List PV → Option (List (List UInt8))
 | [] => some []
 | .sl _ 1 xs :: r => match byteIn xs with
  | some l => (rowsIn r).map (l :: ·)
  | none => none
 | _ => none
def bjoinG : List PV → Option (List PV)
 | [.sl _ 1 xs,.sl .nil 1 []] => match rowsIn xs with
  | some ls => if ls.flatten.length ≤ 1000000000 ∧ ls.length ≤ 1000000000 ∧ 1 ≤ ls.length then some [.sl .any 1 (byteP ls.flatten)] else none
  | none => none
 | _ => none
def mcloneG : CallF → List AV → Heap → Option (List AV × Heap)
 | _,[.mp id],H => (mapOf H id).map fun es => ([.mp H.length],H ++ [.box (mapCells es)])
 | _,[.p .nilmap],H => some ([.p .nilmap],H)
 | _,_,_ => none
def mcloneH : HiFn := ⟨mcloneG,fun c c' _ a H r e => by unfold mcloneG at e ⊢; split at e <;> exact e⟩
def lensOf (H : Heap) : List (PV × AV) → Option Nat
 | [] => some 0
 | (_,v) :: r => match asLen H false v with
  | some n => (lensOf H r).map (n + ·)
  | none => none
def usedV (H : Heap) : List AV → Option (List PV)
 | [_,_,.mp m] => (mapOf H m).bind fun es => (lensOf H es).bind fun n => if n ≤ 1000000000000 then some [.int .i64 (n : Int)] else none
 | [_,_,.p .nilmap] => some [.int .i64 0]
 | _ => none
def usedG : List AV → Heap → Option (List PV)
 | [.p .nilp],_ => some [.int .i64 0]
 | [.bx b 0],H => (boxOf H b).bind (usedV H)
 | _,_ => none
def parseL (ix tr ln : Nat) (call : CallF) (b : Nat) : Nat → List UInt8 → Heap → Option (Int × Heap)
 | 0,_,_ => none
 | n + 1,s,H => match s with
  | [] => some (0,H)
  | c :: r => match call ix [.p (.str (c :: r)),.p (.int .u8 10)] H with
   | some ([.p (.int .i64 i)],H1) =>
    if 0 ≤ i ∧ (c :: r).length ≤ i.toNat then none else
    let l := if 0 ≤ i then (c :: r).take (i.toNat + 1) else c :: r
    let r' := if 0 ≤ i then (c :: r).drop (i.toNat + 1) else []
    match call tr [.p (.str l),.p (.str [10])] H1 with
    | some ([.p (.str t)],H2) => match t with
     | [] => parseL ix tr ln call b n r' H2
     | x :: t' => if x = 35 then parseL ix tr ln call b n r' H2 else
      match call ln [.bx b 0,.p (.str (x :: t'))] H2 with
      | some ([.p (.int .i64 e)],H3) => if e = 0 then parseL ix tr ln call b n r' H3 else some (e,H3)
      | _ => none
    | _ => none
   | _ => none
def parseE (b : Nat) (r : Int × Heap) : Option (List AV × Heap) :=
 if r.1 = 0 then match boxOf r.2 b with
  | some [x,y] => match asLen r.2 false x,asLen r.2 false y with
   | some n,some m => if n ≤ 1000000000 ∧ m ≤ 1000000000 then (if 64 < n ∨ 64 < m then some ([.p .nilp,.p (.int .i64 13)],r.2) else some ([.bx b 0,.p (.int .i64 0)],r.2)) else none
   | _,_ => none
  | _ => none
 else some ([.p .nilp,.p (.int .i64 r.1)],r.2)
def parseG (ix tr ln s1 s2 : Nat) (call : CallF) : List AV → Heap → Option (List AV × Heap)
 | [.p (.str s)],H => if s.length ≤ 1000000000 then (parseL ix tr ln call H.length (s.length + 1) s (H ++ [.box [.p (.sl .nil s1 []),.p (.sl .nil s2 [])]])).bind (parseE H.length) else none
 | _,_ => none
theorem parseL_mono {ix tr ln b : Nat} {c c' : CallF} (h : LeCall c c') : ∀ {n : Nat} {s : List UInt8} {H : Heap} {r : Int × Heap},parseL ix tr ln c b n s H = some r → parseL ix tr ln c' b n s H = some r
 | 0,_,_,_,e => by cases e
 | n + 1,s,H,r,e => by
  unfold parseL at e ⊢
  cases s with
  | nil => exact e
  | cons x l =>
   simp only at e ⊢
   split at e
   ·rename_i i H1 h1
    rw [h _ _ _ _ h1]
    simp only
    split at e
    ·cases e
    rename_i hi
    rw [if_neg hi]
    split at e
    ·rename_i t H2 h2
     rw [h _ _ _ _ h2]
     simp only
     split at e
     ·exact parseL_mono h e
     ·rename_i y t'
      split at e
      ·rename_i hy; rw [if_pos hy]; exact parseL_mono h e
      ·rename_i hy
       rw [if_neg hy]
       split at e
       ·rename_i er H3 h3
        rw [h _ _ _ _ h3]
        simp only
        split at e
        ·rename_i he; rw [if_pos he]; exact parseL_mono h e
        ·rename_i he; rw [if_neg he]; exact e
       ·cases e
    ·cases e
   ·cases e
def parseH (ix tr ln s1 s2 : Nat) : HiFn := ⟨parseG ix tr ln s1 s2,fun c c' h a H r e => by
 unfold parseG at e ⊢
 split at e
 ·rename_i s
  split at e
  ·rename_i hl
   rw [if_pos hl]
   obtain ⟨x,h1,h2⟩ := Option.bind_eq_some_iff.1 e
   rw [parseL_mono h h1]; exact h2
  ·cases e
 ·cases e⟩
end Ab
