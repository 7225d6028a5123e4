import Derived.Test.YtmggokdhhbaphaaDoorAbCore
namespace Ab
abbrev CallF := Nat → List AV → Heap → Option (List AV × Heap)
def LeCall (c c' : CallF) : Prop := ∀ f a H r, c f a H = some r → c' f a H = some r

theorem ifB_some {α : Type} {b : Bool} {x : Option α} {v : α} : ifB b x = some v ↔ b = true ∧ x = some v := by cases b <;> simp [ifB]

theorem callP_mono {c c' : CallF} (h : LeCall c c') {H f as r} (e : callP c H f as = some r) : callP c' H f as = some r := by
  unfold callP at *
  simp only [Option.bind_eq_some_iff] at *
  obtain ⟨fc, h1, ps, h2, r', h3, h4⟩ := e
  exact ⟨fc, h1, ps, h2, r', h _ _ _ _ h3, h4⟩

theorem evQ_mono {Γ : Ctx} {c c' : CallF} (h : LeCall c c') {σ H q v} (e : evQ Γ c σ H q = some v) : evQ Γ c' σ H q = some v := by
  cases q
  case call f args =>
    simp only [evQ, Option.bind_eq_some_iff] at *
    obtain ⟨rs, h1, h2⟩ := e
    exact ⟨rs, callP_mono h h1, h2⟩
  all_goals exact e

theorem callS_mono {Γ : Ctx} {c c' : CallF} (h : LeCall c c') {H f as r} (e : callS Γ c H f as = some r) : callS Γ c' H f as = some r := by
  unfold callS at *
  simp only [Option.bind_eq_some_iff, ifB_some] at *
  obtain ⟨fc, h1, hb, as', h2, HL, h3, r', h4, h5⟩ := e
  exact ⟨fc, h1, hb, as', h2, HL, h3, r', h _ _ _ _ h4, h5⟩
theorem callZ_mono {c c' : CallF} (h : LeCall c c') {H f as r} (e : callZ c H f as = some r) : callZ c' H f as = some r := by
  unfold callZ at *
  simp only [Option.bind_eq_some_iff] at *
  obtain ⟨fc, h1, q, h2, r', h4, h5⟩ := e
  exact ⟨fc, h1, q, h2, r', h _ _ _ _ h4, h5⟩

theorem evX_mono {Γ : Ctx} {c c' : CallF} (h : LeCall c c') {σ H x v} (e : evX Γ c σ H x = some v) : evX Γ c' σ H x = some v := by
  cases x
  case callf f args =>
    simp only [evX, ifB_some, Option.map_eq_some_iff] at *
    obtain ⟨hc, rs, h1, h2⟩ := e
    exact ⟨hc, rs, callP_mono h h1, h2⟩
  case calls f args =>
    simp only [evX, Option.map_eq_some_iff] at *
    obtain ⟨r, h1, h2⟩ := e
    exact ⟨r, callS_mono h h1, h2⟩
  case callz f args =>
    simp only [evX, Option.map_eq_some_iff] at *
    obtain ⟨r, h1, h2⟩ := e
    exact ⟨r, callZ_mono h h1, h2⟩
  case pureq q =>
    simp only [evX, Option.map_eq_some_iff] at *
    obtain ⟨r, h1, h2⟩ := e
    exact ⟨r, evQ_mono h h1, h2⟩
  all_goals exact e

theorem evSts_mono {Γ : Ctx} {c c' : CallF} (h : LeCall c c') : ∀ {l env H r}, evSts Γ c l env H = some r → evSts Γ c' l env H = some r
  | [], _, _, _, e => e
  | s :: l, env, H, r, e => by
    simp only [evSts] at *
    cases hw : wanted (look env) s.g with
    | none => simp [hw] at e
    | some b =>
      cases b with
      | false => simp only [hw] at e ⊢; exact evSts_mono h e
      | true =>
        simp only [hw] at e ⊢
        cases ho : s.op with
        | inl q =>
          simp only [ho] at e ⊢
          cases hq : evQ Γ c (look env) H q with
          | none => simp [hq] at e
          | some v => simp only [hq] at e; simp only [evQ_mono h hq]; exact evSts_mono h e
        | inr x =>
          simp only [ho] at e ⊢
          cases hq : evX Γ c (look env) H x with
          | none => simp [hq] at e
          | some v => simp only [hq] at e; simp only [evX_mono h hq]; exact evSts_mono h e

abbrev RunF := Code → Env → Heap → Option Out
def LeRun (c c' : RunF) : Prop := ∀ f a H r, c f a H = some r → c' f a H = some r

theorem callOf_mono {Γ : Ctx} {c c' : RunF} (h : LeRun c c') : LeCall (callOf Γ c) (callOf Γ c') := by
  intro f a H r e
  unfold callOf at *
  cases hf : Γ.fn f with
  | none => simp [hf] at e
  | some fn =>
    cases fn with
    | prim g => simp only [hf] at e ⊢; exact e
    | fresh g => simp only [hf] at e ⊢; exact e
    | upd g => simp only [hf] at e ⊢; exact e
    | code fn =>
      simp only [hf] at e ⊢
      split at e
      · rename_i hl
        rw [if_pos hl]
        cases hr : c fn.body (initEnv a) H with
        | none => simp [hr] at e
        | some o => rw [hr] at e; rw [h _ _ _ _ hr]; exact e
      · cases e

theorem ev_succ {Γ : Ctx} : ∀ n, LeRun (ev Γ n) (ev Γ (n + 1)) := by
  intro n
  induction n with
  | zero => intro c env H r e; simp [ev] at e
  | succ n ih =>
    intro c env H r e
    cases c with
    | skip => exact e
    | exit => exact e
    | bad => exact e
    | ret => exact e
    | ops live l =>
      simp only [ev, Option.map_eq_some_iff] at *
      obtain ⟨x, h1, h2⟩ := e
      exact ⟨x, evSts_mono (callOf_mono ih) h1, h2⟩
    | seq a b =>
      rw [ev] at e ⊢
      cases ha : ev Γ n a env H with
      | none => simp [ha] at e
      | some o =>
        rw [ih _ _ _ _ ha]
        rw [ha] at e
        obtain ⟨x, env', H'⟩ := o
        cases x <;> simp only at e ⊢
        · exact ih _ _ _ _ e
        · exact e
        · exact e
    | cond c a b =>
      rw [ev] at e ⊢
      split at e
      · rename_i t ht
        cases t
        · exact ih _ _ _ _ e
        · exact ih _ _ _ _ e
      · cases e
    | block live id c =>
      rw [ev] at e ⊢
      cases ha : ev Γ n c env H with
      | none => simp [ha] at e
      | some o => rw [ih _ _ _ _ ha]; rw [ha] at e; exact e
    | loop live gc c =>
      rw [ev] at e ⊢
      cases hn : norm live gc env H with
      | none => simp [hn] at e
      | some eh =>
        simp only [hn] at e ⊢
        cases ha : ev Γ n c eh.1 eh.2 with
        | none => simp [ha] at e
        | some o =>
          rw [ih _ _ _ _ ha]
          rw [ha] at e
          obtain ⟨x, env', H'⟩ := o
          cases x <;> simp only at e ⊢
          · exact ih _ _ _ _ e
          · exact e
          · exact e

theorem ev_le {Γ : Ctx} {n m} (h : n ≤ m) : LeRun (ev Γ n) (ev Γ m) := by
  induction h with
  | refl => exact fun _ _ _ _ e => e
  | step _ ih => exact fun _ _ _ _ e => ev_succ _ _ _ _ _ (ih _ _ _ _ e)

theorem call_le {Γ : Ctx} {n m} (h : n ≤ m) : LeCall (callOf Γ (ev Γ n)) (callOf Γ (ev Γ m)) := callOf_mono (ev_le h)

/-! ### What comes out, whatever the fuel -/
def Wp (Γ : Ctx) (c : Code) (env : Env) (H : Heap) (Q : Out → Prop) : Prop := ∃ n o, ev Γ n c env H = some o ∧ Q o
def WpS (Γ : Ctx) (l : List St) (env : Env) (H : Heap) (Q : Env → Heap → Prop) : Prop := ∃ n r, evSts Γ (callOf Γ (ev Γ n)) l env H = some r ∧ Q r.1 r.2
/-- A call of f in a heap. -/
def Exec (Γ : Ctx) (f : Nat) (args : List AV) (H : Heap) (rs : List AV) (H' : Heap) : Prop := ∃ n, callOf Γ (ev Γ n) f args H = some (rs, H')
/-- A call of f whose arguments and results are trees. -/
def RunP (Γ : Ctx) (f : Nat) (args rs : List PV) : Prop := ∃ n r, callOf Γ (ev Γ n) f (args.map .p) [] = some r ∧ mapO (reify r.2 4) r.1 = some rs

theorem Wp.mono {Γ c env H} {Q Q' : Out → Prop} (h : Wp Γ c env H Q) (hq : ∀ o, Q o → Q' o) : Wp Γ c env H Q' :=
  let ⟨n, o, h1, h2⟩ := h; ⟨n, o, h1, hq _ h2⟩

theorem Wp_skip {Γ env H Q} : Wp Γ .skip env H Q ↔ Q (.nrm, env, H) := by
  constructor
  · rintro ⟨n, o, h1, h2⟩
    cases n with
    | zero => simp [ev] at h1
    | succ n => simp only [ev, Option.some.injEq] at h1; subst h1; exact h2
  · exact fun h => ⟨1, _, rfl, h⟩
theorem Wp_exit {Γ id env H Q} : Wp Γ (.exit id) env H Q ↔ Q (.ex id, env, H) := by
  constructor
  · rintro ⟨n, o, h1, h2⟩
    cases n with
    | zero => simp [ev] at h1
    | succ n => simp only [ev, Option.some.injEq] at h1; subst h1; exact h2
  · exact fun h => ⟨1, _, rfl, h⟩
theorem Wp_ret {Γ env H Q} : Wp Γ .ret env H Q ↔ Q (.ret, env, H) := by
  constructor
  · rintro ⟨n, o, h1, h2⟩
    cases n with
    | zero => simp [ev] at h1
    | succ n => simp only [ev, Option.some.injEq] at h1; subst h1; exact h2
  · exact fun h => ⟨1, _, rfl, h⟩
theorem Wp_ops {Γ live l env H Q} : Wp Γ (.ops live l) env H Q ↔ WpS Γ l env H fun e h => Q (.nrm, prune live e, h) := by
  constructor
  · rintro ⟨n, o, h1, h2⟩
    cases n with
    | zero => simp [ev] at h1
    | succ n =>
      simp only [ev, Option.map_eq_some_iff] at h1
      obtain ⟨r, h3, rfl⟩ := h1
      exact ⟨n, r, h3, h2⟩
  · rintro ⟨n, r, h1, h2⟩
    exact ⟨n + 1, _, by simp only [ev, h1]; rfl, h2⟩

/-- What stands behind a piece that ends as pieces do. -/
def Nxt (Q : Out → Prop) (K : Env → Heap → Prop) : Out → Prop
  | (.nrm, e, h) => K e h
  | o => Q o
def InBlk (live : List Nat) (id : Nat) (Q : Out → Prop) : Out → Prop
  | (.nrm, e, h) => Q (.nrm, prune live e, h)
  | (.ex i, e, h) => if i = id then Q (.nrm, prune live e, h) else Q (.ex i, e, h)
  | o => Q o
theorem Nxt_nrm {Q K e h} : Nxt Q K (.nrm, e, h) ↔ K e h := Iff.rfl
theorem Nxt_ex {Q K i e h} : Nxt Q K (.ex i, e, h) ↔ Q (.ex i, e, h) := Iff.rfl
theorem Nxt_ret {Q K e h} : Nxt Q K (.ret, e, h) ↔ Q (.ret, e, h) := Iff.rfl
theorem InBlk_nrm {live id Q e h} : InBlk live id Q (.nrm, e, h) ↔ Q (.nrm, prune live e, h) := Iff.rfl
theorem InBlk_ex {live id Q i e h} : InBlk live id Q (.ex i, e, h) ↔ if i = id then Q (.nrm, prune live e, h) else Q (.ex i, e, h) := Iff.rfl
theorem InBlk_ret {live id Q e h} : InBlk live id Q (.ret, e, h) ↔ Q (.ret, e, h) := Iff.rfl

theorem Wp_seq {Γ a b env H Q} : Wp Γ (.seq a b) env H Q ↔ Wp Γ a env H (Nxt Q fun e h => Wp Γ b e h Q) := by
  constructor
  · rintro ⟨n, o, h1, h2⟩
    cases n with
    | zero => simp [ev] at h1
    | succ n =>
      rw [ev] at h1
      cases ha : ev Γ n a env H with
      | none => simp [ha] at h1
      | some x =>
        rw [ha] at h1
        obtain ⟨y, e, h⟩ := x
        refine ⟨n, _, ha, ?_⟩
        cases y <;> simp only [Nxt] at h1 ⊢
        · exact ⟨n, o, h1, h2⟩
        all_goals (simp only [Option.some.injEq] at h1; subst h1; exact h2)
  · rintro ⟨n, ⟨y, e, h⟩, h1, h2⟩
    cases y
    · obtain ⟨m, o, h3, h4⟩ := h2
      refine ⟨max n m + 1, o, ?_, h4⟩
      rw [ev, ev_le (Nat.le_max_left n m) _ _ _ _ h1]
      exact ev_le (Nat.le_max_right n m) _ _ _ _ h3
    all_goals exact ⟨n + 1, _, by rw [ev, h1], h2⟩

theorem Wp_block {Γ live id c env H Q} : Wp Γ (.block live id c) env H Q ↔ Wp Γ c env H (InBlk live id Q) := by
  constructor
  · rintro ⟨n, o, h1, h2⟩
    cases n with
    | zero => simp [ev] at h1
    | succ n =>
      rw [ev] at h1
      cases ha : ev Γ n c env H with
      | none => simp [ha] at h1
      | some x =>
        rw [ha] at h1
        obtain ⟨y, e, h⟩ := x
        refine ⟨n, _, ha, ?_⟩
        cases y <;> simp only [InBlk] at h1 ⊢
        case ex i =>
          split at h1 <;> rename_i hi <;> simp only [Option.some.injEq] at h1 <;> subst h1
          · rw [if_pos hi]; exact h2
          · rw [if_neg hi]; exact h2
        all_goals (simp only [Option.some.injEq] at h1; subst h1; exact h2)
  · rintro ⟨n, ⟨y, e, h⟩, h1, h2⟩
    cases y
    case ex i =>
      simp only [InBlk] at h2
      refine ⟨n + 1, if i = id then (.nrm, prune live e, h) else (.ex i, e, h), by rw [ev, h1]; simp only; split <;> rfl, ?_⟩
      split at h2 <;> rename_i hi
      · rw [if_pos hi]; exact h2
      · rw [if_neg hi]; exact h2
    all_goals exact ⟨n + 1, _, by rw [ev, h1], h2⟩

def condP (v : AV) (A B : Prop) : Prop :=
  match v with
  | .p (.bool t) => if t = true then A else B
  | _ => False
theorem condP_bool {t A B} : condP (.p (.bool t)) A B ↔ if t = true then A else B := Iff.rfl

theorem Wp_cond {Γ x a b env H Q} : Wp Γ (.cond x a b) env H Q ↔ condP (x.ev Γ (look env)) (Wp Γ a env H Q) (Wp Γ b env H Q) := by
  constructor
  · rintro ⟨n, o, h1, h2⟩
    cases n with
    | zero => simp [ev] at h1
    | succ n =>
      rw [ev] at h1
      split at h1
      · rename_i t ht
        rw [ht]
        cases t
        · exact ⟨n, o, h1, h2⟩
        · exact ⟨n, o, h1, h2⟩
      · cases h1
  · intro h
    unfold condP at h
    split at h
    · rename_i t ht
      cases t
      · obtain ⟨n, o, h1, h2⟩ := h
        exact ⟨n + 1, o, by rw [ev, ht]; exact h1, h2⟩
      · obtain ⟨n, o, h1, h2⟩ := h
        exact ⟨n + 1, o, by rw [ev, ht]; exact h1, h2⟩
    · cases h

def optP {α : Type} (x : Option α) (K : α → Prop) : Prop := match x with | some v => K v | none => False
theorem optP_some {α : Type} {v : α} {K : α → Prop} : optP (some v) K ↔ K v := Iff.rfl
theorem optP_none {α : Type} {K : α → Prop} : optP none K ↔ False := Iff.rfl
theorem optP_map {α β : Type} {x : Option α} {f : α → β} {K : β → Prop} : optP (x.map f) K ↔ optP x fun a => K (f a) := by cases x <;> rfl
theorem optP_bind {α β : Type} {x : Option α} {f : α → Option β} {K : β → Prop} : optP (x.bind f) K ↔ optP x fun a => optP (f a) K := by cases x <;> rfl
theorem optP_ite {α : Type} {c : Prop} [Decidable c] {x : Option α} {K : α → Prop} : optP (if c then x else none) K ↔ c ∧ optP x K := by
  by_cases h : c <;> simp [h, optP_none]
theorem optP_iff {α : Type} {x : Option α} {K : α → Prop} : optP x K ↔ ∃ v, x = some v ∧ K v := by cases x <;> simp [optP]

/-- One round of a loop. -/
theorem Wp_loop {Γ live gc c env H Q} : Wp Γ (.loop live gc c) env H Q ↔
    optP (norm live gc env H) fun eh => Wp Γ c eh.1 eh.2 (Nxt Q fun e h => Wp Γ (.loop live gc c) e h Q) := by
  constructor
  · rintro ⟨n, o, h1, h2⟩
    cases n with
    | zero => simp [ev] at h1
    | succ n =>
      rw [ev] at h1
      cases hn : norm live gc env H with
      | none => simp [hn] at h1
      | some eh =>
        simp only [hn] at h1
        rw [optP_some]
        cases ha : ev Γ n c eh.1 eh.2 with
        | none => simp [ha] at h1
        | some x =>
          rw [ha] at h1
          obtain ⟨y, e, h⟩ := x
          refine ⟨n, _, ha, ?_⟩
          cases y <;> simp only [Nxt] at h1 ⊢
          · exact ⟨n, o, h1, h2⟩
          all_goals (simp only [Option.some.injEq] at h1; subst h1; exact h2)
  · intro h
    rw [optP_iff] at h
    obtain ⟨eh, hn, n, ⟨y, e, h⟩, h1, h2⟩ := h
    cases y
    · obtain ⟨m, o, h3, h4⟩ := h2
      refine ⟨max n m + 1, o, ?_, h4⟩
      rw [ev, hn]
      simp only
      rw [ev_le (Nat.le_max_left n m) _ _ _ _ h1]
      exact ev_le (Nat.le_max_right n m) _ _ _ _ h3
    all_goals exact ⟨n + 1, _, by rw [ev, hn]; simp only; rw [h1], h2⟩

theorem Wp_loop' {Γ L live gc c env H Q} (h : L = .loop live gc c) : Wp Γ L env H Q ↔
    optP (norm live gc env H) fun eh => Wp Γ c eh.1 eh.2 (Nxt Q fun e h => Wp Γ L e h Q) := by subst h; exact Wp_loop

theorem WpS_nil {Γ env H Q} : WpS Γ [] env H Q ↔ Q env H :=
  ⟨fun ⟨_, _, h1, h2⟩ => by simp only [evSts, Option.some.injEq] at h1; subst h1; exact h2, fun h => ⟨0, _, rfl, h⟩⟩

/-- An operation, and what is asked of its value behind it. -/
def WpO (Γ : Ctx) (o : QOp ⊕ XOp) (env : Env) (H : Heap) (K : AV → Heap → Prop) : Prop :=
  ∃ n, match o with
    | .inl q => optP (evQ Γ (callOf Γ (ev Γ n)) (look env) H q) fun v => K v H
    | .inr x => optP (evX Γ (callOf Γ (ev Γ n)) (look env) H x) fun r => K r.1 r.2

def gd (x : Option Bool) (A B : Prop) : Prop :=
  match x with
  | some t => if t = true then B else A
  | none => False
theorem gd_some {t A B} : gd (some t) A B ↔ if t = true then B else A := Iff.rfl

theorem WpS_cons {Γ dst g o r env H Q} : WpS Γ (⟨dst, g, o⟩ :: r) env H Q ↔
    gd (wanted (look env) g) (WpS Γ r (put env dst .nov) H Q) (WpO Γ o env H fun v H' => WpS Γ r (put env dst v) H' Q) := by
  constructor
  · rintro ⟨n, x, h1, h2⟩
    simp only [evSts] at h1
    cases hw : wanted (look env) g with
    | none => simp [hw] at h1
    | some b =>
      cases b with
      | false => simp only [hw] at h1; exact ⟨n, x, h1, h2⟩
      | true =>
        simp only [hw] at h1
        refine ⟨n, ?_⟩
        cases o with
        | inl q =>
          simp only at h1 ⊢
          cases hq : evQ Γ (callOf Γ (ev Γ n)) (look env) H q with
          | none => simp [hq] at h1
          | some v => simp only [hq] at h1; exact ⟨n, x, h1, h2⟩
        | inr q =>
          simp only at h1 ⊢
          cases hq : evX Γ (callOf Γ (ev Γ n)) (look env) H q with
          | none => simp [hq] at h1
          | some v => simp only [hq] at h1; exact ⟨n, x, h1, h2⟩
  · intro h
    cases hw : wanted (look env) g with
    | none => rw [hw] at h; exact h.elim
    | some b =>
      rw [hw] at h
      cases b with
      | false =>
        obtain ⟨n, x, h1, h2⟩ := h
        exact ⟨n, x, by simp only [evSts, hw]; exact h1, h2⟩
      | true =>
        obtain ⟨n, h⟩ := h
        cases o with
        | inl q =>
          simp only [optP_iff] at h
          obtain ⟨v, hq, m, x, h1, h2⟩ := h
          refine ⟨max n m, x, ?_, h2⟩
          simp only [evSts, hw, evQ_mono (call_le (Nat.le_max_left n m)) hq]
          exact evSts_mono (call_le (Nat.le_max_right n m)) h1
        | inr q =>
          simp only [optP_iff] at h
          obtain ⟨v, hq, m, x, h1, h2⟩ := h
          refine ⟨max n m, x, ?_, h2⟩
          simp only [evSts, hw, evX_mono (call_le (Nat.le_max_left n m)) hq]
          exact evSts_mono (call_le (Nat.le_max_right n m)) h1

def noCall : CallF := fun _ _ _ => none

theorem optP_const {α : Type} {x : Nat → Option α} {y : Option α} (h : ∀ n, x n = y) {K : α → Prop} : (∃ n, optP (x n) K) ↔ optP y K := by
  simp only [h]
  exact ⟨fun ⟨_, h⟩ => h, fun h => ⟨0, h⟩⟩

/-- Operations that are no call. -/
def QOp.plain : QOp → Bool
  | .call _ _ => false
  | _ => true
def XOp.plain : XOp → Bool
  | .callf _ _ | .calls _ _ | .callz _ _ | .pureq _ => false
  | _ => true
theorem WpO_q {Γ q env H K} (h : q.plain = true) : WpO Γ (.inl q) env H K ↔ optP (evQ Γ noCall (look env) H q) fun v => K v H :=
  optP_const fun n => by cases q <;> first | rfl | cases h
theorem WpO_x {Γ x env H K} (h : x.plain = true) : WpO Γ (.inr x) env H K ↔ optP (evX Γ noCall (look env) H x) fun r => K r.1 r.2 :=
  optP_const fun n => by cases x <;> first | rfl | cases h

/-! ### Each operation -/
section
variable {Γ : Ctx} {env : Env} {H : Heap} {K : AV → Heap → Prop}
theorem WpO_mov {x} : WpO Γ (.inl (.mov x)) env H K ↔ K (Arg.ev Γ (look env) x) H := WpO_q rfl
theorem WpO_pick {c a b} : WpO Γ (.inl (.pick c a b)) env H K ↔ optP (pickA (Arg.ev Γ (look env) c) (Arg.ev Γ (look env) a) (Arg.ev Γ (look env) b)) fun v => K v H := WpO_q rfl
theorem WpO_nilchk {x} : WpO Γ (.inl (.nilchk x)) env H K ↔ optP (nilchkA H (Arg.ev Γ (look env) x)) fun v => K v H := WpO_q rfl
theorem WpO_bin {op x y} : WpO Γ (.inl (.bin op x y)) env H K ↔ optP (binAV op (Arg.ev Γ (look env) x) (Arg.ev Γ (look env) y)) fun v => K v H := WpO_q rfl
theorem WpO_eqs {n neg x y} : WpO Γ (.inl (.eqs n neg x y)) env H K ↔ optP (eqsA n neg (Arg.ev Γ (look env) x) (Arg.ev Γ (look env) y)) fun v => K v H := WpO_q rfl
theorem WpO_eqk {kd neg x y} : WpO Γ (.inl (.eqk kd neg x y)) env H K ↔ optP (eqkA kd neg (Arg.ev Γ (look env) x) (Arg.ev Γ (look env) y)) fun v => K v H := WpO_q rfl
theorem WpO_un {op x} : WpO Γ (.inl (.un op x)) env H K ↔ optP (unA op (Arg.ev Γ (look env) x)) fun v => K v H := WpO_q rfl
theorem WpO_conv {k x} : WpO Γ (.inl (.conv k x)) env H K ↔ optP (convA k (Arg.ev Γ (look env) x)) fun v => K v H := WpO_q rfl
theorem WpO_same {x} : WpO Γ (.inl (.same x)) env H K ↔ optP (sameA (Arg.ev Γ (look env) x)) fun v => K v H := WpO_q rfl
theorem WpO_strOf {x} : WpO Γ (.inl (.strOf x)) env H K ↔ optP (strOfA H (Arg.ev Γ (look env) x)) fun v => K v H := WpO_q rfl
theorem WpO_runeStr {x} : WpO Γ (.inl (.runeStr x)) env H K ↔ optP (runeStrA (Arg.ev Γ (look env) x)) fun v => K v H := WpO_q rfl
theorem WpO_len {s x} : WpO Γ (.inl (.len s x)) env H K ↔ optP (asLen H s (Arg.ev Γ (look env) x)) fun (n : Nat) => K (.p (.int .i64 (n : Int))) H := by
  rw [WpO_q rfl, evQ, optP_map]
theorem WpO_idx {x i} : WpO Γ (.inl (.idx x i)) env H K ↔ optP (idxA (Arg.ev Γ (look env) x) (Arg.ev Γ (look env) i)) fun v => K v H := WpO_q rfl
theorem WpO_aidx {sz ag n x i} : WpO Γ (.inl (.aidx sz ag n x i)) env H K ↔ optP (aidxA sz ag n (Arg.ev Γ (look env) x) (Arg.ev Γ (look env) i)) fun v => K v H := WpO_q rfl
theorem WpO_fld {off sz ag x} : WpO Γ (.inl (.fld off sz ag x)) env H K ↔ optP (fldA off sz ag (Arg.ev Γ (look env) x)) fun v => K v H := WpO_q rfl
theorem WpO_faddr {off x} : WpO Γ (.inl (.faddr off x)) env H K ↔ optP (faddrA H off (Arg.ev Γ (look env) x)) fun v => K v H := WpO_q rfl
theorem WpO_iaddr {sz x i} : WpO Γ (.inl (.iaddr sz x i)) env H K ↔ optP (iaddrA H sz (Arg.ev Γ (look env) x) (Arg.ev Γ (look env) i)) fun v => K v H := WpO_q rfl
theorem WpO_iaddrA {sz n x i} : WpO Γ (.inl (.iaddrA sz n x i)) env H K ↔ optP (iaddrAA sz n (Arg.ev Γ (look env) x) (Arg.ev Γ (look env) i)) fun v => K v H := WpO_q rfl
theorem WpO_load {sz ag x} : WpO Γ (.inl (.load sz ag x)) env H K ↔ optP (loadA H sz ag (Arg.ev Γ (look env) x)) fun v => K v H := WpO_q rfl
theorem WpO_sliceS {x lo hi} : WpO Γ (.inl (.sliceS x lo hi)) env H K ↔ optP (sliceSA (Arg.ev Γ (look env) x) (lo.map (Arg.ev Γ (look env))) (hi.map (Arg.ev Γ (look env)))) fun v => K v H := WpO_q rfl
theorem WpO_slice {sz x lo hi} : WpO Γ (.inl (.slice sz x lo hi)) env H K ↔ optP (sliceA sz (Arg.ev Γ (look env) x) (lo.map (Arg.ev Γ (look env))) (hi.map (Arg.ev Γ (look env)))) fun v => K v H := WpO_q rfl
theorem WpO_build {zero parts} : WpO Γ (.inl (.build zero parts)) env H K ↔ optP (fillA (zero.map .p) (parts.map fun q => (q.off, q.sz, (Arg.ev Γ (look env) q.arg)))) fun cs => K (mkAgg cs) H := by
  rw [WpO_q rfl, evQ, optP_map]
theorem WpO_bslice {sz ag n zero parts} : WpO Γ (.inl (.bslice sz ag n zero parts)) env H K ↔
    optP (bsliceA sz ag n (fillA (zero.map .p) (parts.map fun q => (q.off, q.sz, (Arg.ev Γ (look env) q.arg))))) fun v => K v H := WpO_q rfl
theorem WpO_ext {x i} : WpO Γ (.inl (.ext x i)) env H K ↔ optP (extA i (Arg.ev Γ (look env) x)) fun v => K v H := WpO_q rfl
theorem WpO_minmax {mx xs} : WpO Γ (.inl (.minmax mx xs)) env H K ↔ optP (minmax mx (xs.map (Arg.ev Γ (look env)))) fun v => K v H := WpO_q rfl
theorem WpO_clos {f caps} : WpO Γ (.inl (.clos f caps)) env H K ↔ optP (ifB ((caps.map (Arg.ev Γ (look env))).all AV.one) (some (closA f (caps.map (Arg.ev Γ (look env)))))) fun v => K v H := WpO_q rfl
theorem WpO_alloc {zero} : WpO Γ (.inr (.alloc zero)) env H K ↔ K (.bx H.length 0) (H ++ [.box (zero.map .p)]) := WpO_x rfl
theorem WpO_box {x} : WpO Γ (.inr (.box x)) env H K ↔ optP (boxA H (Arg.ev Γ (look env) x)) fun r => K r.1 r.2 := WpO_x rfl
theorem WpO_store {sz x v} : WpO Γ (.inr (.store sz x v)) env H K ↔ optP (storeA H sz (Arg.ev Γ (look env) x) (Arg.ev Γ (look env) v)) fun H' => K .nov H' := by
  rw [WpO_x rfl, evX, optP_map]
theorem WpO_range {x} : WpO Γ (.inr (.range x)) env H K ↔ optP (rangeA H (Arg.ev Γ (look env) x)) fun r => K r.1 r.2 := WpO_x rfl
theorem WpO_next {x} : WpO Γ (.inr (.next x)) env H K ↔ optP (nextA H (Arg.ev Γ (look env) x)) fun r => K r.1 r.2 := WpO_x rfl
theorem WpO_mkslice {sz ag zero n c} : WpO Γ (.inr (.mkslice sz ag zero n c)) env H K ↔ optP (mksliceA H sz ag zero (Arg.ev Γ (look env) n) (Arg.ev Γ (look env) c)) fun r => K r.1 r.2 := WpO_x rfl
theorem WpO_newrow {sz} : WpO Γ (.inr (.newrow sz)) env H K ↔ K (.own H.length 0) (H ++ [.row false sz []]) := WpO_x rfl
theorem WpO_append {sz x y} : WpO Γ (.inr (.append sz x y)) env H K ↔ optP (elemsOf H sz (Arg.ev Γ (look env) y)) fun ys => optP (appendA H sz (Arg.ev Γ (look env) x) ys) fun r => K r.1 r.2 := by
  rw [WpO_x rfl, evX, optP_bind]
theorem WpO_appendS {x y} : WpO Γ (.inr (.appendS x y)) env H K ↔ optP (appendSA H (Arg.ev Γ (look env) x) (Arg.ev Γ (look env) y)) fun r => K r.1 r.2 := WpO_x rfl
theorem WpO_copy {sz x y} : WpO Γ (.inr (.copy sz x y)) env H K ↔ optP (elemsOf H sz (Arg.ev Γ (look env) y)) fun ys => optP (copyA H sz (Arg.ev Γ (look env) x) ys) fun r => K r.1 r.2 := by
  rw [WpO_x rfl, evX, optP_bind]
theorem WpO_bytesOf {x} : WpO Γ (.inr (.bytesOf x)) env H K ↔ optP (bytesOfA H (Arg.ev Γ (look env) x)) fun r => K r.1 r.2 := WpO_x rfl
theorem WpO_slicef {sz x lo hi} : WpO Γ (.inr (.slicef sz x lo hi)) env H K ↔
    optP (slicefA H sz (Arg.ev Γ (look env) x) (lo.map (Arg.ev Γ (look env))) (hi.map (Arg.ev Γ (look env)))) fun r => K r.1 r.2 := WpO_x rfl
end

/-- A call that gets and gives trees. -/
theorem WpO_call {Γ f args env H K} (ps : List PV) (rs : List PV) (hps : mapO (reify H 4) (args.map (Arg.ev Γ (look env))) = some ps)
    (hr : RunP Γ f ps rs) (hok : allP (args.map (Arg.ev Γ (look env))) = true ∨ rs.all flat = true) (hK : K (results (rs.map .p)) H) :
    WpO Γ (.inl (.call (.f f) args)) env H K := by
  obtain ⟨n, r, h1, h2⟩ := hr
  refine ⟨n, ?_⟩
  simp only [evQ, callP, Arg.ev, callee, Option.bind_some, List.map_nil, List.append_nil, hps, h1, h2]
  have e : (allP (args.map (Arg.ev Γ (look env))) && (AV.p (.clo f [])).isP || rs.all flat) = true := by rcases hok with h | h <;> simp [h, AV.isP]
  exact (show optP (ifB (allP (args.map (Arg.ev Γ (look env))) && (AV.p (.clo f [])).isP || rs.all flat) (some (results (rs.map .p)))) _ by rw [e]; exact hK)

theorem WpO_callf {Γ f args env H K} (ps : List PV) (rs : List PV) (hps : mapO (reify H 4) (args.map (Arg.ev Γ (look env))) = some ps)
    (hr : RunP Γ f ps rs) (hok : rowsOnly ((args.map (Arg.ev Γ (look env))).flatMap AV.cells) = true)
    (hK : K (results (rs.map .p)) (freeze H ((args.map (Arg.ev Γ (look env))).flatMap AV.cells))) :
    WpO Γ (.inr (.callf (.f f) args)) env H K := by
  obtain ⟨n, r, h1, h2⟩ := hr
  refine ⟨n, ?_⟩
  simp only [evX, hok, callP, Arg.ev, callee, Option.bind_some, List.map_nil, List.append_nil, hps, h1, h2, AV.isP]
  exact hK

/-- A function's call, out of its body. -/
theorem RunP_of {Γ : Ctx} {f : Nat} {fn : AFn} {args rs : List PV} (hf : Γ.fn f = some (.code fn)) (hl : args.length = fn.np)
    (h : Wp Γ fn.body (initEnv (args.map .p)) [] fun o => (∀ i, o.1 ≠ .ex i) ∧ optP (mapO (RV.get o.2.1 o.2.2) fn.results) fun vs => mapO (reify o.2.2 4) vs = some rs) : RunP Γ f args rs := by
  obtain ⟨n, ⟨x, e, H⟩, h1, h2, h3⟩ := h
  rw [optP_iff] at h3
  obtain ⟨vs, h4, h5⟩ := h3
  refine ⟨n, (vs, H), ?_, h5⟩
  unfold callOf
  rw [hf]
  simp only [List.length_map, hl, if_true, h1]
  cases x
  · simp only [h4]
  · exact absurd rfl (h2 _)
  · simp only [h4]

theorem RunP_prim {Γ : Ctx} {f : Nat} {g} {args rs : List PV} (hf : Γ.fn f = some (.prim g)) (h : g args = some rs) : RunP Γ f args rs := by
  have e : ∀ l : List PV, pures (l.map .p) = some l := by
    intro l
    induction l with
    | nil => rfl
    | cons a l ih => simp [pures, ih]
  have e2 : ∀ (H : Heap) (l : List PV), mapO (reify H 4) (l.map .p) = some l := by
    intro H l
    induction l with
    | nil => rfl
    | cons a l ih => simp only [List.map_cons, mapO, ih, show reify H 4 (.p a) = some a from rfl]
  refine ⟨0, (rs.map .p, []), ?_, e2 _ _⟩
  unfold callOf
  rw [hf]
  simp only [e, h]
end Ab
namespace Ab
open Go (IntKind BinOp UnOp)
theorem wrap_i64 {x : Int} (h0 : -9223372036854775808 ≤ x) (h1 : x ≤ 9223372036854775807) : IntKind.i64.wrap x = x := by
  simp only [IntKind.wrap, IntKind.bits, IntKind.signed, Bool.true_and, decide_eq_true_eq, ge_iff_le]
  have e : (2 : Int) ^ 64 = 18446744073709551616 := by decide
  have e2 : (2 : Int) ^ (64 - 1) = 9223372036854775808 := by decide
  rw [e, e2]
  split <;> omega
theorem wrap_u8 {x : Int} (h0 : 0 ≤ x) (h1 : x ≤ 255) : IntKind.u8.wrap x = x := by
  simp only [IntKind.wrap, IntKind.bits, IntKind.signed, Bool.false_and]
  have e : (2 : Int) ^ 8 = 256 := by decide
  rw [e]
  simp
  omega
theorem toNat_cast (n : Nat) : ((n : Int)).toNat = n := Int.toNat_natCast n
end Ab
/- A walk through code: every continuation is data, so that a rewriting goes forward only. -/
namespace Ab
open Go (IntKind BinOp UnOp)
/-! ### What a call yields -/
theorem RunP_det {Γ : Ctx} {f : Nat} {ps rs rs' : List PV} (h : RunP Γ f ps rs) (h' : RunP Γ f ps rs') : rs = rs' := by
  obtain ⟨n, r, h1, h2⟩ := h
  obtain ⟨m, r', h3, h4⟩ := h'
  have e1 := call_le (Nat.le_max_left n m) _ _ _ _ h1
  have e2 := call_le (Nat.le_max_right n m) _ _ _ _ h3
  rw [e1] at e2
  cases e2
  rw [h2] at h4
  cases h4
  rfl
open Classical in
/-- What a call of f hands back. -/
noncomputable def res (Γ : Ctx) (f : Nat) (ps : List PV) : Option (List PV) := if h : ∃ rs, RunP Γ f ps rs then some h.choose else none
theorem res_of {Γ f ps rs} (h : RunP Γ f ps rs) : res Γ f ps = some rs := by
  have h' : ∃ rs, RunP Γ f ps rs := ⟨_, h⟩
  unfold res
  rw [dif_pos h']
  exact congrArg some (RunP_det h'.choose_spec h)
theorem of_res {Γ f ps rs} (h : res Γ f ps = some rs) : RunP Γ f ps rs := by
  unfold res at h
  split at h
  · rename_i h'
    cases h
    exact h'.choose_spec
  · cases h

def WpL (Γ : Ctx) (l : List St) (env : Env) (H : Heap) (live : List Nat) (Q : Out → Prop) : Prop := WpS Γ l env H fun e h => Q (.nrm, prune live e, h)
def NxtC (Γ : Ctx) (b : Code) (Q : Out → Prop) : Out → Prop
  | (.nrm, e, h) => Wp Γ b e h Q
  | o => Q o
def condC (Γ : Ctx) (v : AV) (a b : Code) (env : Env) (H : Heap) (Q : Out → Prop) : Prop := condP v (Wp Γ a env H Q) (Wp Γ b env H Q)
def opK (Γ : Ctx) (x : Option AV) (dst : Option Nat) (r : List St) (env : Env) (H : Heap) (live : List Nat) (Q : Out → Prop) : Prop := optP x fun v => WpL Γ r (put env dst v) H live Q
def opX (Γ : Ctx) (x : Option (AV × Heap)) (dst : Option Nat) (r : List St) (env : Env) (live : List Nat) (Q : Out → Prop) : Prop := optP x fun y => WpL Γ r (put env dst y.1) y.2 live Q
def gdK (Γ : Ctx) (v : AV) (b : Bool) (dst : Option Nat) (op : QOp ⊕ XOp) (r : List St) (env : Env) (H : Heap) (live : List Nat) (Q : Out → Prop) : Prop :=
  gd (match v with | .p (.bool c) => some (c == b) | .nov => some false | _ => none) (WpL Γ r (put env dst .nov) H live Q) (WpL Γ (⟨dst, none, op⟩ :: r) env H live Q)
def lpK (Γ : Ctx) (c L : Code) (x : Option (Env × Heap)) (Q : Out → Prop) : Prop := optP x fun eh => Wp Γ c eh.1 eh.2 (NxtC Γ L Q)

section
variable {Γ : Ctx} {env : Env} {H : Heap} {live : List Nat} {Q : Out → Prop} {r : List St} {dst : Option Nat}
theorem W_seq {a b} : Wp Γ (.seq a b) env H Q ↔ Wp Γ a env H (NxtC Γ b Q) := Wp_seq
theorem NxtC_nrm {b e h} : NxtC Γ b Q (.nrm, e, h) ↔ Wp Γ b e h Q := Iff.rfl
theorem NxtC_ex {b i e h} : NxtC Γ b Q (.ex i, e, h) ↔ Q (.ex i, e, h) := Iff.rfl
theorem NxtC_ret {b e h} : NxtC Γ b Q (.ret, e, h) ↔ Q (.ret, e, h) := Iff.rfl
theorem InBlk_same {id e h} : InBlk live id Q (.ex id, e, h) ↔ Q (.nrm, prune live e, h) := by rw [InBlk_ex, if_pos rfl]
theorem InBlk_other {id i e h} (hi : i ≠ id) : InBlk live id Q (.ex i, e, h) ↔ Q (.ex i, e, h) := by rw [InBlk_ex, if_neg hi]
theorem W_ops {l} : Wp Γ (.ops live l) env H Q ↔ WpL Γ l env H live Q := Wp_ops
theorem W_cond {x a b} : Wp Γ (.cond x a b) env H Q ↔ condC Γ (x.ev Γ (look env)) a b env H Q := Wp_cond
theorem condC_true {a b} : condC Γ (.p (.bool true)) a b env H Q ↔ Wp Γ a env H Q := Iff.rfl
theorem condC_false {a b} : condC Γ (.p (.bool false)) a b env H Q ↔ Wp Γ b env H Q := by simp [condC, condP]
theorem condC_split {c : Bool} {a b} (h1 : c = true → condC Γ (.p (.bool true)) a b env H Q) (h2 : c = false → condC Γ (.p (.bool false)) a b env H Q) : condC Γ (.p (.bool c)) a b env H Q := by cases c <;> simp_all
theorem gdK_split {c b : Bool} {op} (h1 : c = true → gdK Γ (.p (.bool true)) b dst op r env H live Q) (h2 : c = false → gdK Γ (.p (.bool false)) b dst op r env H live Q) : gdK Γ (.p (.bool c)) b dst op r env H live Q := by cases c <;> simp_all
theorem L_nil : WpL Γ [] env H live Q ↔ Q (.nrm, prune live env, H) := WpS_nil
theorem L_guard {t b op} : WpL Γ (⟨dst, some (t, b), op⟩ :: r) env H live Q ↔ gdK Γ (look env t) b dst op r env H live Q := by
  unfold WpL gdK
  rw [WpS_cons, wanted, WpL, WpL, WpS_cons, wanted, gd_some, if_pos rfl]
  cases look env t with
  | p v => cases v <;> exact Iff.rfl
  | _ => exact Iff.rfl
theorem gdK_tt {op} : gdK Γ (.p (.bool true)) true dst op r env H live Q ↔ WpL Γ (⟨dst, none, op⟩ :: r) env H live Q := by simp [gdK, gd]
theorem gdK_ff {op} : gdK Γ (.p (.bool false)) false dst op r env H live Q ↔ WpL Γ (⟨dst, none, op⟩ :: r) env H live Q := by simp [gdK, gd]
theorem gdK_tf {op} : gdK Γ (.p (.bool true)) false dst op r env H live Q ↔ WpL Γ r (put env dst .nov) H live Q := by simp [gdK, gd]
theorem gdK_ft {op} : gdK Γ (.p (.bool false)) true dst op r env H live Q ↔ WpL Γ r (put env dst .nov) H live Q := by simp [gdK, gd]
theorem gdK_nov {op b} : gdK Γ .nov b dst op r env H live Q ↔ WpL Γ r (put env dst .nov) H live Q := by simp [gdK, gd]
theorem opK_some {v} : opK Γ (some v) dst r env H live Q ↔ WpL Γ r (put env dst v) H live Q := Iff.rfl
theorem opX_some {v H'} : opX Γ (some (v, H')) dst r env live Q ↔ WpL Γ r (put env dst v) H' live Q := Iff.rfl
theorem L_of {o} : WpL Γ (⟨dst, none, o⟩ :: r) env H live Q ↔ WpO Γ o env H fun v H' => WpL Γ r (put env dst v) H' live Q := by
  unfold WpL
  rw [WpS_cons, wanted, gd_some, if_pos rfl]
theorem W_loop {L gc c} (h : L = .loop live gc c) : Wp Γ L env H Q ↔ lpK Γ c L (norm live gc env H) Q := Wp_loop' h
theorem lpK_some {c L e h} : lpK Γ c L (some (e, h)) Q ↔ Wp Γ c e h (NxtC Γ L Q) := Iff.rfl
theorem L_mov {x} : WpL Γ (⟨dst, none, .inl (.mov x)⟩ :: r) env H live Q ↔ opK Γ (some (Arg.ev Γ (look env) x)) dst r env H live Q := L_of.trans (WpO_q rfl)
theorem L_pick {c a b} : WpL Γ (⟨dst, none, .inl (.pick c a b)⟩ :: r) env H live Q ↔ opK Γ (pickA (Arg.ev Γ (look env) c) (Arg.ev Γ (look env) a) (Arg.ev Γ (look env) b)) dst r env H live Q := L_of.trans (WpO_q rfl)
theorem L_nilchk {x} : WpL Γ (⟨dst, none, .inl (.nilchk x)⟩ :: r) env H live Q ↔ opK Γ (nilchkA H (Arg.ev Γ (look env) x)) dst r env H live Q := L_of.trans (WpO_q rfl)
theorem L_bin {op x y} : WpL Γ (⟨dst, none, .inl (.bin op x y)⟩ :: r) env H live Q ↔ opK Γ (binAV op (Arg.ev Γ (look env) x) (Arg.ev Γ (look env) y)) dst r env H live Q := L_of.trans (WpO_q rfl)
theorem L_eqs {n neg x y} : WpL Γ (⟨dst, none, .inl (.eqs n neg x y)⟩ :: r) env H live Q ↔ opK Γ (eqsA n neg (Arg.ev Γ (look env) x) (Arg.ev Γ (look env) y)) dst r env H live Q := L_of.trans (WpO_q rfl)
theorem L_eqk {kd neg x y} : WpL Γ (⟨dst, none, .inl (.eqk kd neg x y)⟩ :: r) env H live Q ↔ opK Γ (eqkA kd neg (Arg.ev Γ (look env) x) (Arg.ev Γ (look env) y)) dst r env H live Q := L_of.trans (WpO_q rfl)
theorem L_un {op x} : WpL Γ (⟨dst, none, .inl (.un op x)⟩ :: r) env H live Q ↔ opK Γ (unA op (Arg.ev Γ (look env) x)) dst r env H live Q := L_of.trans (WpO_q rfl)
theorem L_conv {k x} : WpL Γ (⟨dst, none, .inl (.conv k x)⟩ :: r) env H live Q ↔ opK Γ (convA k (Arg.ev Γ (look env) x)) dst r env H live Q := L_of.trans (WpO_q rfl)
theorem L_same {x} : WpL Γ (⟨dst, none, .inl (.same x)⟩ :: r) env H live Q ↔ opK Γ (sameA (Arg.ev Γ (look env) x)) dst r env H live Q := L_of.trans (WpO_q rfl)
theorem L_strOf {x} : WpL Γ (⟨dst, none, .inl (.strOf x)⟩ :: r) env H live Q ↔ opK Γ (strOfA H (Arg.ev Γ (look env) x)) dst r env H live Q := L_of.trans (WpO_q rfl)
theorem L_runeStr {x} : WpL Γ (⟨dst, none, .inl (.runeStr x)⟩ :: r) env H live Q ↔ opK Γ (runeStrA (Arg.ev Γ (look env) x)) dst r env H live Q := L_of.trans (WpO_q rfl)
theorem L_len {s x} : WpL Γ (⟨dst, none, .inl (.len s x)⟩ :: r) env H live Q ↔ opK Γ ((asLen H s (Arg.ev Γ (look env) x)).map fun (n : Nat) => AV.p (.int .i64 (n : Int))) dst r env H live Q := L_of.trans (WpO_q rfl)
theorem L_idx {x i} : WpL Γ (⟨dst, none, .inl (.idx x i)⟩ :: r) env H live Q ↔ opK Γ (idxA (Arg.ev Γ (look env) x) (Arg.ev Γ (look env) i)) dst r env H live Q := L_of.trans (WpO_q rfl)
theorem L_aidx {sz ag n x i} : WpL Γ (⟨dst, none, .inl (.aidx sz ag n x i)⟩ :: r) env H live Q ↔ opK Γ (aidxA sz ag n (Arg.ev Γ (look env) x) (Arg.ev Γ (look env) i)) dst r env H live Q := L_of.trans (WpO_q rfl)
theorem L_fld {off sz ag x} : WpL Γ (⟨dst, none, .inl (.fld off sz ag x)⟩ :: r) env H live Q ↔ opK Γ (fldA off sz ag (Arg.ev Γ (look env) x)) dst r env H live Q := L_of.trans (WpO_q rfl)
theorem L_faddr {off x} : WpL Γ (⟨dst, none, .inl (.faddr off x)⟩ :: r) env H live Q ↔ opK Γ (faddrA H off (Arg.ev Γ (look env) x)) dst r env H live Q := L_of.trans (WpO_q rfl)
theorem L_iaddr {sz x i} : WpL Γ (⟨dst, none, .inl (.iaddr sz x i)⟩ :: r) env H live Q ↔ opK Γ (iaddrA H sz (Arg.ev Γ (look env) x) (Arg.ev Γ (look env) i)) dst r env H live Q := L_of.trans (WpO_q rfl)
theorem L_iaddrA {sz n x i} : WpL Γ (⟨dst, none, .inl (.iaddrA sz n x i)⟩ :: r) env H live Q ↔ opK Γ (iaddrAA sz n (Arg.ev Γ (look env) x) (Arg.ev Γ (look env) i)) dst r env H live Q := L_of.trans (WpO_q rfl)
theorem L_load {sz ag x} : WpL Γ (⟨dst, none, .inl (.load sz ag x)⟩ :: r) env H live Q ↔ opK Γ (loadA H sz ag (Arg.ev Γ (look env) x)) dst r env H live Q := L_of.trans (WpO_q rfl)
theorem L_sliceS {x lo hi} : WpL Γ (⟨dst, none, .inl (.sliceS x lo hi)⟩ :: r) env H live Q ↔ opK Γ (sliceSA (Arg.ev Γ (look env) x) (lo.map (Arg.ev Γ (look env))) (hi.map (Arg.ev Γ (look env)))) dst r env H live Q := L_of.trans (WpO_q rfl)
theorem L_slice {sz x lo hi} : WpL Γ (⟨dst, none, .inl (.slice sz x lo hi)⟩ :: r) env H live Q ↔ opK Γ (sliceA sz (Arg.ev Γ (look env) x) (lo.map (Arg.ev Γ (look env))) (hi.map (Arg.ev Γ (look env)))) dst r env H live Q := L_of.trans (WpO_q rfl)
theorem L_build {zero parts} : WpL Γ (⟨dst, none, .inl (.build zero parts)⟩ :: r) env H live Q ↔ opK Γ ((fillA (zero.map .p) (parts.map fun q => (q.off, q.sz, Arg.ev Γ (look env) q.arg))).map mkAgg) dst r env H live Q := L_of.trans (WpO_q rfl)
theorem L_bslice {sz ag n zero parts} : WpL Γ (⟨dst, none, .inl (.bslice sz ag n zero parts)⟩ :: r) env H live Q ↔ opK Γ (bsliceA sz ag n (fillA (zero.map .p) (parts.map fun q => (q.off, q.sz, Arg.ev Γ (look env) q.arg)))) dst r env H live Q := L_of.trans (WpO_q rfl)
theorem L_ext {x i} : WpL Γ (⟨dst, none, .inl (.ext x i)⟩ :: r) env H live Q ↔ opK Γ (extA i (Arg.ev Γ (look env) x)) dst r env H live Q := L_of.trans (WpO_q rfl)
theorem L_minmax {mx xs} : WpL Γ (⟨dst, none, .inl (.minmax mx xs)⟩ :: r) env H live Q ↔ opK Γ (minmax mx (xs.map (Arg.ev Γ (look env)))) dst r env H live Q := L_of.trans (WpO_q rfl)
theorem L_clos {f caps} : WpL Γ (⟨dst, none, .inl (.clos f caps)⟩ :: r) env H live Q ↔ opK Γ (ifB ((caps.map (Arg.ev Γ (look env))).all AV.one) (some (closA f (caps.map (Arg.ev Γ (look env)))))) dst r env H live Q := L_of.trans (WpO_q rfl)
theorem L_alloc {zero} : WpL Γ (⟨dst, none, .inr (.alloc zero)⟩ :: r) env H live Q ↔ opX Γ (some (.bx H.length 0, H ++ [.box (zero.map .p)])) dst r env live Q := L_of.trans (WpO_x rfl)
theorem L_box {x} : WpL Γ (⟨dst, none, .inr (.box x)⟩ :: r) env H live Q ↔ opX Γ (boxA H (Arg.ev Γ (look env) x)) dst r env live Q := L_of.trans (WpO_x rfl)
theorem L_store {sz x v} : WpL Γ (⟨dst, none, .inr (.store sz x v)⟩ :: r) env H live Q ↔ opX Γ ((storeA H sz (Arg.ev Γ (look env) x) (Arg.ev Γ (look env) v)).map fun H' => (AV.nov, H')) dst r env live Q := L_of.trans (WpO_x rfl)
theorem L_range {x} : WpL Γ (⟨dst, none, .inr (.range x)⟩ :: r) env H live Q ↔ opX Γ (rangeA H (Arg.ev Γ (look env) x)) dst r env live Q := L_of.trans (WpO_x rfl)
theorem L_next {x} : WpL Γ (⟨dst, none, .inr (.next x)⟩ :: r) env H live Q ↔ opX Γ (nextA H (Arg.ev Γ (look env) x)) dst r env live Q := L_of.trans (WpO_x rfl)
theorem L_mkslice {sz ag zero n c} : WpL Γ (⟨dst, none, .inr (.mkslice sz ag zero n c)⟩ :: r) env H live Q ↔ opX Γ (mksliceA H sz ag zero (Arg.ev Γ (look env) n) (Arg.ev Γ (look env) c)) dst r env live Q := L_of.trans (WpO_x rfl)
theorem L_newrow {sz} : WpL Γ (⟨dst, none, .inr (.newrow sz)⟩ :: r) env H live Q ↔ opX Γ (some (.own H.length 0, H ++ [.row false sz []])) dst r env live Q := L_of.trans (WpO_x rfl)
theorem L_append {sz x y} : WpL Γ (⟨dst, none, .inr (.append sz x y)⟩ :: r) env H live Q ↔ opX Γ ((elemsOf H sz (Arg.ev Γ (look env) y)).bind fun ys => appendA H sz (Arg.ev Γ (look env) x) ys) dst r env live Q := L_of.trans (WpO_x rfl)
theorem L_appendS {x y} : WpL Γ (⟨dst, none, .inr (.appendS x y)⟩ :: r) env H live Q ↔ opX Γ (appendSA H (Arg.ev Γ (look env) x) (Arg.ev Γ (look env) y)) dst r env live Q := L_of.trans (WpO_x rfl)
theorem L_copy {sz x y} : WpL Γ (⟨dst, none, .inr (.copy sz x y)⟩ :: r) env H live Q ↔ opX Γ ((elemsOf H sz (Arg.ev Γ (look env) y)).bind fun ys => copyA H sz (Arg.ev Γ (look env) x) ys) dst r env live Q := L_of.trans (WpO_x rfl)
theorem L_bytesOf {x} : WpL Γ (⟨dst, none, .inr (.bytesOf x)⟩ :: r) env H live Q ↔ opX Γ (bytesOfA H (Arg.ev Γ (look env) x)) dst r env live Q := L_of.trans (WpO_x rfl)
theorem L_slicef {sz x lo hi} : WpL Γ (⟨dst, none, .inr (.slicef sz x lo hi)⟩ :: r) env H live Q ↔ opX Γ (slicefA H sz (Arg.ev Γ (look env) x) (lo.map (Arg.ev Γ (look env))) (hi.map (Arg.ev Γ (look env)))) dst r env live Q := L_of.trans (WpO_x rfl)

/-- A call's results as trees, where its arguments are trees. -/
noncomputable def callR (Γ : Ctx) (H : Heap) (f : AV) (as : List AV) : Option (List PV) := (callee f).bind fun fc => (mapO (reify H 4) (as ++ fc.2)).bind (res Γ fc.1)
theorem callR_spec {f : AV} {as : List AV} {rs : List PV} (h : callR Γ H f as = some rs) : ∃ n, callP (callOf Γ (ev Γ n)) H f as = some rs := by
  unfold callR at h
  obtain ⟨fc, h1, h⟩ := Option.bind_eq_some_iff.1 h
  obtain ⟨ps, h2, h⟩ := Option.bind_eq_some_iff.1 h
  obtain ⟨n, r, h3, h4⟩ := of_res h
  exact ⟨n, by simp only [callP, h1, Option.bind_some, h2, h3, h4]⟩
theorem callR_of {f : AV} {as : List AV} {rs : List PV} {n : Nat} (h : callP (callOf Γ (ev Γ n)) H f as = some rs) : callR Γ H f as = some rs := by
  unfold callP at h
  obtain ⟨fc, h1, h⟩ := Option.bind_eq_some_iff.1 h
  obtain ⟨ps, h2, h⟩ := Option.bind_eq_some_iff.1 h
  obtain ⟨r, h3, h4⟩ := Option.bind_eq_some_iff.1 h
  simp only [callR, h1, h2, Option.bind_some]
  exact res_of ⟨n, r, h3, h4⟩
theorem L_call {f args} : WpL Γ (⟨dst, none, .inl (.call f args)⟩ :: r) env H live Q ↔ opK Γ ((callR Γ H (Arg.ev Γ (look env) f) (args.map (Arg.ev Γ (look env)))).bind fun rs =>
      ifB (allP (args.map (Arg.ev Γ (look env))) && (Arg.ev Γ (look env) f).isP || rs.all flat) (some (results (rs.map .p)))) dst r env H live Q := by
  rw [L_of]
  unfold opK WpO
  constructor
  · rintro ⟨n, h⟩
    dsimp only at h
    rw [optP_iff] at h ⊢
    obtain ⟨v, h1, h2⟩ := h
    simp only [evQ] at h1
    obtain ⟨rs, h3, h4⟩ := Option.bind_eq_some_iff.1 h1
    exact ⟨v, by rw [callR_of h3]; exact h4, h2⟩
  · intro h
    rw [optP_iff] at h
    obtain ⟨v, h1, h2⟩ := h
    obtain ⟨rs, h3, h4⟩ := Option.bind_eq_some_iff.1 h1
    obtain ⟨n, h5⟩ := callR_spec h3
    refine ⟨n, ?_⟩
    simp only [evQ, h5, Option.bind_some, h4]
    exact h2
theorem L_callf {f args} : WpL Γ (⟨dst, none, .inr (.callf f args)⟩ :: r) env H live Q ↔ opX Γ (ifB (rowsOnly ((args.map (Arg.ev Γ (look env))).flatMap AV.cells) && (Arg.ev Γ (look env) f).isP)
      ((callR Γ H (Arg.ev Γ (look env) f) (args.map (Arg.ev Γ (look env)))).map fun rs => (results (rs.map .p), freeze H ((args.map (Arg.ev Γ (look env))).flatMap AV.cells)))) dst r env live Q := by
  rw [L_of]
  unfold opX WpO
  constructor
  · rintro ⟨n, h⟩
    dsimp only at h
    rw [optP_iff] at h ⊢
    obtain ⟨v, h1, h2⟩ := h
    simp only [evX] at h1
    obtain ⟨hb, h3⟩ := ifB_some.1 h1
    obtain ⟨rs, h4, rfl⟩ := Option.map_eq_some_iff.1 h3
    exact ⟨_, by rw [callR_of h4, ifB_some]; exact ⟨hb, rfl⟩, h2⟩
  · intro h
    rw [optP_iff] at h
    obtain ⟨v, h1, h2⟩ := h
    obtain ⟨hb, h3⟩ := ifB_some.1 h1
    obtain ⟨rs, h4, rfl⟩ := Option.map_eq_some_iff.1 h3
    obtain ⟨n, h5⟩ := callR_spec h4
    refine ⟨n, ?_⟩
    simp only [evX, hb, h5, Option.map_some]
    exact h2
end
end Ab
/- What functions of the library that are rows of the model compute. -/
namespace Ab
open Go (IntKind BinOp UnOp)
/-- Where a byte stands first: -1: nowhere. -/
def ixB : List UInt8 → UInt8 → Int
  | [], _ => -1
  | b :: l, c => if b == c then 0 else if ixB l c == -1 then -1 else ixB l c + 1
def indexByteG : List PV → Option (List PV)
  | [.str s, .int .u8 c] => some [.int .i64 (ixB s c.toNat.toUInt8)]
  | _ => none
def countG : List PV → Option (List PV)
  | [.str s, .int .u8 c] => some [.int .i64 (s.count c.toNat.toUInt8 : Nat)]
  | _ => none
/-- Texts with one between. -/
def joinB (sep : List UInt8) : List (List UInt8) → List UInt8
  | [] => []
  | [s] => s
  | s :: r => s ++ sep ++ joinB sep r
def strsIn : List PV → Option (List (List UInt8))
  | [] => some []
  | .str s :: r => (strsIn r).map (s :: ·)
  | _ => none
/-- A number in decimal digits. -/
def decB (u : Nat) : List UInt8 :=
  if h : u < 10 then [UInt8.ofNat (48 + u)] else decB (u / 10) ++ [UInt8.ofNat (48 + u % 10)]
termination_by u
decreasing_by omega
def itoaB (n : Int) : List UInt8 := if n < 0 then 45 :: decB n.natAbs else decB n.toNat
def itoaG : List PV → Option (List PV)
  | [.int .i64 n] => if -9223372036854775808 ≤ n ∧ n ≤ 9223372036854775807 then some [.str (itoaB n)] else none
  | _ => none
def pow10P : List PV := ((List.range 20).map fun i => ((10 ^ i : Nat) : Int)).map (.int .u64)
def joinG : List PV → Option (List PV)
  | [.sl _ 1 xs, .str sep] => match strsIn xs with
    | some l => if (joinB sep l).length ≤ 1000000000 ∧ l.length ≤ 1000000000 then some [.str (joinB sep l)] else none
    | none => none
  | _ => none
/-- A slice's elements in a row of their own; 'n': how many cells each has. -/
def cloneG (n : Nat) : List PV → Option (Nat × List PV)
  | [.sl _ sz xs] => if sz = n ∧ 0 < n ∧ xs.length ≤ lim ∧ xs.all flat = true then some (n, xs) else none
  | _ => none
/-- Known values' numbers. -/
def intsIn : List PV → Option (List Int)
  | [] => some []
  | .agg [.bool true, .int .i64 n] :: r => (intsIn r).map (n :: ·)
  | _ => none
/-- A number behind those that are not greater. -/
def insI (n : Int) : List Int → List Int
  | [] => [n]
  | m :: r => if m ≤ n then m :: insI n r else n :: m :: r
def sortI (l : List Int) : List Int := l.foldl (fun o n => insI n o) []
/-- Known values in order of size; 'c': the function that compares them. -/
def sortG (c : Nat) : List PV → Nat → List PV → Option (List PV)
  | [.clo k []], 2, xs => if k = c then (intsIn xs).map fun ns => (sortI ns).map fun n => .agg [.bool true, .int .i64 n] else none
  | _, _, _ => none
end Ab
