/- Regions that draw their order: every order ends as the order of the text does. -/
import Derived.Test.YtgdkafbcchkplaaGreatDoorAbY5
namespace Ab
open Go (IntKind BinOp UnOp World Value Addr Obj undef maxLen Program TypeId Oper Op Operand Act Sem Next Result execOp Builtin Calls Ending Exit)

section
variable {Γ : Ctx} {cal : Nat → List AV → Heap → Option (List AV × Heap)}

/-- The course of the statements in the order of the text. -/
structure Course (Γ : Ctx) (cal : Nat → List AV → Heap → Option (List AV × Heap)) (sts : List St) (E : Nat → Env) (hp : Nat → Heap) (val : Nat → AV) : Prop where
  one : ∀ (i : Nat) s, sts[i]? = some s → evOne Γ cal s (look (E i)) (hp i) = some (val i, hp (i + 1))
  env : ∀ (i : Nat) s, sts[i]? = some s → E (i + 1) = put (E i) s.dst (val i)

theorem course_of : ∀ (sts : List St) {env env' : Env} {H H' : Heap}, evSts Γ cal sts env H = some (env', H') → ∃ E hp val, Course Γ cal sts E hp val ∧ E 0 = env ∧ hp 0 = H ∧ E sts.length = env' ∧ hp sts.length = H'
  | [], env, env', H, H', h => by
    simp only [evSts, Option.some.injEq, Prod.mk.injEq] at h
    obtain ⟨rfl, rfl⟩ := h
    exact ⟨fun _ => env, fun _ => H, fun _ => .any, ⟨by simp, by simp⟩, rfl, rfl, rfl, rfl⟩
  | s :: sts, env, env', H, H', h => by
    rw [evSts_cons, Option.bind_eq_some_iff] at h
    obtain ⟨⟨v, H1⟩, h1, h2⟩ := h
    obtain ⟨E, hp, val, hc, e1, e2, e3, e4⟩ := course_of sts h2
    refine ⟨fun i => match i with | 0 => env | i + 1 => E i, fun i => match i with | 0 => H | i + 1 => hp i, fun i => match i with | 0 => v | i + 1 => val i, ⟨fun i s' hs => ?_, fun i s' hs => ?_⟩, rfl, rfl, e3, e4⟩
    · cases i with
      | zero => simp only [List.getElem?_cons_zero, Option.some.injEq] at hs; subst hs; rw [h1]; exact congrArg some (Prod.ext rfl e2.symm)
      | succ i => exact hc.one i s' (by simpa using hs)
    · cases i with
      | zero => simp only [List.getElem?_cons_zero, Option.some.injEq] at hs; subst hs; exact e1
      | succ i => exact hc.env i s' (by simpa using hs)

def dstOf (sts : List St) (k : Nat) : Option Nat := (sts[k]?).bind (·.dst)
/-- Behind which statement a name was written last. -/
def lastW (sts : List St) (L : Nat → Bool) (t : Nat) : Nat → Nat
  | 0 => 0
  | k + 1 => if L k = true ∧ dstOf sts k = some t then k + 1 else lastW sts L t k

theorem lastW_congr {sts : List St} {L L' : Nat → Bool} {t : Nat} : ∀ n, (∀ k < n, dstOf sts k = some t → L k = L' k) → lastW sts L t n = lastW sts L' t n
  | 0, _ => rfl
  | n + 1, h => by
    have ih := lastW_congr n fun k hk => h k (by omega)
    unfold lastW
    by_cases hd : dstOf sts n = some t
    · rw [h n (by omega) hd, ih]
    · simp only [hd, and_false, if_false]; exact ih
theorem lastW_at {sts : List St} {L : Nat → Bool} {t i : Nat} (hL : L i = true) (hd : dstOf sts i = some t) : ∀ n, i < n → (∀ k, i < k → k < n → dstOf sts k = some t → L k = false) → lastW sts L t n = i + 1
  | 0, h, _ => by omega
  | n + 1, h, hk => by
    unfold lastW
    by_cases he : i = n
    · subst he; simp [hL, hd]
    · have hno : ¬ (L n = true ∧ dstOf sts n = some t) := fun ⟨h1, h2⟩ => by rw [hk n (by omega) (by omega) h2] at h1; cases h1
      rw [if_neg hno]
      exact lastW_at hL hd n (by omega) fun k h1 h2 => hk k h1 (by omega)

theorem Course.agree {sts : List St} {E : Nat → Env} {hp : Nat → Heap} {val : Nat → AV} (hc : Course Γ cal sts E hp val) {L : Nat → Bool} {t i : Nat} (hL : ∀ k, dstOf sts k = some t → (L k = true ↔ k < i)) :
    ∀ j, j ≤ sts.length → look (E (lastW sts L t j)) t = look (E (min i j)) t
  | 0, _ => by simp [lastW]
  | j + 1, hj => by
    have ih := hc.agree hL j (by omega)
    have hs : sts[j]? = some sts[j] := List.getElem?_eq_getElem (by omega)
    have hE := hc.env j _ hs
    have hd : dstOf sts j = (sts[j]).dst := by simp [dstOf, hs]
    unfold lastW
    by_cases h : L j = true ∧ dstOf sts j = some t
    · rw [if_pos h]
      have : j < i := (hL j h.2).1 h.1
      rw [show min i (j + 1) = j + 1 by omega]
    · rw [if_neg h, ih]
      by_cases hi : i ≤ j
      · rw [show min i j = i by omega, show min i (j + 1) = i by omega]
      · rw [show min i j = j by omega, show min i (j + 1) = j + 1 by omega, hE, look_put]
        have : ¬ (sts[j]).dst = some t := fun e => by
          rw [← hd] at e
          exact h ⟨(hL j e).2 (by omega), e⟩
        rw [if_neg this]

theorem Course.quiet {sts : List St} {E : Nat → Env} {hp : Nat → Heap} {val : Nat → AV} (hc : Course Γ cal sts E hp val) {i : Nat} {s : St} (hs : sts[i]? = some s) (hx : isX s.op = false) : hp (i + 1) = hp i := by
  have h := hc.one i s hs
  simp only [evOne] at h
  split at h
  · cases h
  · simp only [Option.some.injEq, Prod.mk.injEq] at h; exact h.2.symm
  · split at h
    · simp only [Option.map_eq_some_iff, Prod.mk.injEq] at h
      obtain ⟨_, _, _, h⟩ := h; exact h.symm
    · rename_i x hx'; rw [hx'] at hx; cases hx
theorem Course.between {sts : List St} {E : Nat → Env} {hp : Nat → Heap} {val : Nat → AV} (hc : Course Γ cal sts E hp val) {k : Nat} : ∀ i, k ≤ i → i ≤ sts.length → (∀ (m : Nat) s, k ≤ m → m < i → sts[m]? = some s → isX s.op = false) → hp i = hp k
  | 0, h, _, _ => by rw [show k = 0 by omega]
  | i + 1, h, hi, hq => by
    by_cases hk : k = i + 1
    · rw [hk]
    · have hs : sts[i]? = some sts[i] := List.getElem?_eq_getElem (by omega)
      rw [hc.quiet hs (hq i _ (by omega) (by omega) hs)]
      exact hc.between i (by omega) (by omega) fun m s h1 h2 => hq m s h1 (by omega)

theorem evOne_free {s : St} {σ : Nat → AV} {H H2 H' : Heap} {v : AV} (hf : isFree s.op = true) (h : evOne Γ cal s σ H = some (v, H')) : evOne Γ cal s σ H2 = some (v, H2) := by
  unfold evOne at *
  split at h
  · cases h
  · simp only [Option.some.injEq, Prod.mk.injEq] at h
    simp [h.1]
  · cases hs : s.op with
    | inr x => rw [hs] at hf; cases x <;> cases hf
    | inl q =>
      rw [hs] at hf h
      simp only [Option.map_eq_some_iff, Prod.mk.injEq] at h
      obtain ⟨v', h, rfl, _⟩ := h
      have e : evQ Γ cal σ H2 q = evQ Γ cal σ H q := by cases q <;> first | rfl | cases hf
      simp only [e, h, Option.map_some]

/-! What is read stays as it is when blocks are added. -/
theorem rowOf_up {H E : Heap} {id n : Nat} {r : Nat × List PV} (h : rowOf H id n = some r) : rowOf (H ++ E) id n = some r := by
  unfold rowOf at *
  cases hb : H[id]? with
  | none => simp [hb] at h
  | some b => rw [List.getElem?_append_left (List.getElem?_eq_some_iff.1 hb).1, hb]; rw [hb] at h; exact h
theorem boxOf_up {H E : Heap} {id : Nat} {cs : List AV} (h : boxOf H id = some cs) : boxOf (H ++ E) id = some cs := by
  unfold boxOf at *
  cases hb : H[id]? with
  | none => simp [hb] at h
  | some b => rw [List.getElem?_append_left (List.getElem?_eq_some_iff.1 hb).1, hb]; rw [hb] at h; exact h
theorem mapO_up {α β : Type} {f g : α → Option β} (hfg : ∀ a b, f a = some b → g a = some b) : ∀ {l : List α} {r : List β}, mapO f l = some r → mapO g l = some r
  | [], _, h => h
  | a :: l, r, h => by
    simp only [mapO] at h ⊢
    cases ha : f a with
    | none => simp [ha] at h
    | some b =>
      rw [ha] at h
      cases hl : mapO f l with
      | none => simp [hl] at h
      | some bs => rw [hfg a b ha, mapO_up hfg hl]; rw [hl] at h; exact h
theorem reify_up {H E : Heap} : ∀ (d : Nat) (v : AV) (p : PV), reify H d v = some p → reify (H ++ E) d v = some p
  | 0, v, p, h => by cases v <;> first | exact h | cases h
  | d + 1, v, p, h => by
    have ih := reify_up (H := H) (E := E) d
    cases v with
    | p v => exact h
    | own id n =>
      rw [show reify H (d + 1) (.own id n) = (rowOf H id n).map fun r => .sl .any r.1 r.2 from rfl, Option.map_eq_some_iff] at h
      obtain ⟨r, h1, h2⟩ := h
      rw [show reify (H ++ E) (d + 1) (.own id n) = (rowOf (H ++ E) id n).map fun r => .sl .any r.1 r.2 from rfl, rowOf_up h1, Option.map_some, h2]
    | bx id off =>
      rw [show reify H (d + 1) (.bx id off) = (boxOf H id).bind fun cs => if off < cs.length then (mapO (reify H d) (cs.drop off)).map .ptr else none from rfl, Option.bind_eq_some_iff] at h
      obtain ⟨cs, h1, h2⟩ := h
      rw [show reify (H ++ E) (d + 1) (.bx id off) = (boxOf (H ++ E) id).bind fun cs => if off < cs.length then (mapO (reify (H ++ E) d) (cs.drop off)).map .ptr else none from rfl, boxOf_up h1, Option.bind_some]
      split at h2
      · rename_i hl
        rw [if_pos hl]
        obtain ⟨xs, h3, h4⟩ := Option.map_eq_some_iff.1 h2
        rw [mapO_up ih h3, Option.map_some, h4]
      · cases h2
    | el id n i off =>
      rw [show reify H (d + 1) (.el id n i off) = (rowOf H id n).bind fun r => r.2[i]?.bind fun x => if off < x.cells.length then some (.ptr (x.cells.drop off)) else none from rfl, Option.bind_eq_some_iff] at h
      obtain ⟨r, h1, h2⟩ := h
      rw [show reify (H ++ E) (d + 1) (.el id n i off) = (rowOf (H ++ E) id n).bind fun r => r.2[i]?.bind fun x => if off < x.cells.length then some (.ptr (x.cells.drop off)) else none from rfl, rowOf_up h1]
      exact h2
    | agg cs =>
      rw [show reify H (d + 1) (.agg cs) = (mapO (reify H d) cs).map .agg from rfl, Option.map_eq_some_iff] at h
      obtain ⟨xs, h1, h2⟩ := h
      rw [show reify (H ++ E) (d + 1) (.agg cs) = (mapO (reify (H ++ E) d) cs).map .agg from rfl, mapO_up ih h1, Option.map_some, h2]
    | clo f cs =>
      rw [show reify H (d + 1) (.clo f cs) = (mapO (reify H d) cs).map (.clo f) from rfl, Option.map_eq_some_iff] at h
      obtain ⟨xs, h1, h2⟩ := h
      rw [show reify (H ++ E) (d + 1) (.clo f cs) = (mapO (reify (H ++ E) d) cs).map (.clo f) from rfl, mapO_up ih h1, Option.map_some, h2]
    | tup cs => cases h
    | nov => cases h
    | any => cases h
theorem elOk_up {H E : Heap} {id n i : Nat} (h : elOk H id n i = true) : elOk (H ++ E) id n i = true := by
  unfold elOk at *
  cases hr : rowOf H id n with
  | none => simp [hr] at h
  | some r => rw [rowOf_up hr]; rw [hr] at h; exact h
theorem evQ_up {σ : Nat → AV} {H E : Heap} {q : QOp} {v : AV} (h : evQ Γ cal σ H q = some v) : evQ Γ cal σ (H ++ E) q = some v := by
  cases q
  case nilchk x =>
    simp only [evQ] at h ⊢
    generalize x.ev Γ σ = y at h ⊢
    unfold nilchkA at h ⊢
    split at h
    all_goals first
      | exact h
      | (simp only [ifB_some] at h ⊢; exact ⟨elOk_up h.1, h.2⟩)
      | cases h
  case strOf x =>
    simp only [evQ] at h ⊢
    generalize x.ev Γ σ = y at h ⊢
    unfold strOfA at h ⊢
    split at h
    · exact h
    · obtain ⟨r, h1, h2⟩ := Option.bind_eq_some_iff.1 h
      simp only [rowOf_up h1]
      exact h2
    · cases h
  case len s x =>
    simp only [evQ] at h ⊢
    generalize x.ev Γ σ = y at h ⊢
    obtain ⟨n, h1, h2⟩ := Option.map_eq_some_iff.1 h
    have : asLen (H ++ E) s y = some n := by
      unfold asLen at h1 ⊢
      split at h1
      · exact h1
      · exact h1
      · obtain ⟨r, h3, h4⟩ := Option.map_eq_some_iff.1 h1
        subst h4
        rw [rowOf_up h3]; rfl
      · cases h1
    rw [this, Option.map_some, h2]
  case faddr off x =>
    simp only [evQ] at h ⊢
    generalize x.ev Γ σ = y at h ⊢
    unfold faddrA at h ⊢
    split at h
    all_goals first
      | exact h
      | (simp only [ifB_some] at h ⊢; exact ⟨elOk_up h.1, h.2⟩)
      | cases h
  case iaddr sz x i =>
    simp only [evQ] at h ⊢
    generalize x.ev Γ σ = y at h ⊢
    generalize i.ev Γ σ = z at h ⊢
    unfold iaddrA at h ⊢
    split at h
    · exact h
    · obtain ⟨r, h1, h2⟩ := Option.bind_eq_some_iff.1 h
      simp only [rowOf_up h1]
      exact h2
    · cases h
  case load sz ag x =>
    simp only [evQ] at h ⊢
    generalize x.ev Γ σ = y at h ⊢
    unfold loadA at h ⊢
    split at h
    · exact h
    · obtain ⟨r, h1, h2⟩ := Option.bind_eq_some_iff.1 h
      simp only [boxOf_up h1]
      exact h2
    · obtain ⟨r, h1, h2⟩ := Option.bind_eq_some_iff.1 h
      simp only [rowOf_up h1]
      exact h2
    · cases h
  case call f args =>
    simp only [evQ, Option.bind_eq_some_iff] at h ⊢
    obtain ⟨rs, h1, h2⟩ := h
    refine ⟨rs, ?_, h2⟩
    unfold callP at *
    simp only [Option.bind_eq_some_iff] at *
    obtain ⟨fc, h3, ps, h4, r, h5, h6⟩ := h1
    exact ⟨fc, h3, ps, mapO_up (reify_up 4) h4, r, h5, h6⟩
  all_goals exact h
theorem evOne_up {s : St} {σ : Nat → AV} {H E H' : Heap} {v : AV} (hx : isX s.op = false) (h : evOne Γ cal s σ H = some (v, H')) : evOne Γ cal s σ (H ++ E) = some (v, H ++ E) := by
  unfold evOne at *
  split at h
  · cases h
  · simp only [Option.some.injEq, Prod.mk.injEq] at h
    simp [h.1]
  · cases hs : s.op with
    | inr x => rw [hs] at hx; cases hx
    | inl q =>
      rw [hs] at h
      simp only [Option.map_eq_some_iff, Prod.mk.injEq] at h
      obtain ⟨v', h, rfl, _⟩ := h
      simp only [evQ_up h, Option.map_some]
theorem Course.more {sts : List St} {E : Nat → Env} {hp : Nat → Heap} {val : Nat → AV} (hc : Course Γ cal sts E hp val) {i : Nat} {s : St} (hs : sts[i]? = some s) (hx : isX s.op = true → isAlloc s.op = true) : ∃ X, hp (i + 1) = hp i ++ X := by
  cases hq : isX s.op with
  | false => exact ⟨[], by rw [hc.quiet hs hq, List.append_nil]⟩
  | true =>
    have ha := hx hq
    have h := hc.one i s hs
    simp only [evOne] at h
    split at h
    · cases h
    · simp only [Option.some.injEq, Prod.mk.injEq] at h; exact ⟨[], by rw [← h.2, List.append_nil]⟩
    · cases hop : s.op with
      | inl q => rw [hop] at hq; cases hq
      | inr x =>
        rw [hop] at h ha
        cases x <;> try cases ha
        all_goals
          simp only [evX, Option.some.injEq, Prod.mk.injEq] at h
          exact ⟨_, h.2.symm⟩
theorem Course.grows {sts : List St} {E : Nat → Env} {hp : Nat → Heap} {val : Nat → AV} (hc : Course Γ cal sts E hp val) {k : Nat} : ∀ i, k ≤ i → i ≤ sts.length → (∀ (m : Nat) s, k ≤ m → m < i → sts[m]? = some s → isX s.op = true → isAlloc s.op = true) → ∃ X, hp i = hp k ++ X
  | 0, h, _, _ => ⟨[], by rw [show k = 0 by omega, List.append_nil]⟩
  | i + 1, h, hi, hq => by
    by_cases hk : k = i + 1
    · exact ⟨[], by rw [hk, List.append_nil]⟩
    · have hs : sts[i]? = some sts[i] := List.getElem?_eq_getElem (by omega)
      obtain ⟨X, hX⟩ := hc.grows (k := k) i (by omega) (by omega) fun m s h1 h2 => hq m s h1 (by omega)
      obtain ⟨Y, hY⟩ := hc.more hs (hq i _ (by omega) (by omega) hs)
      exact ⟨X ++ Y, by rw [hY, hX, List.append_assoc]⟩

theorem Course.quiets {sts : List St} {E : Nat → Env} {hp : Nat → Heap} {val : Nat → AV} (hc : Course Γ cal sts E hp val) : ∀ i, i ≤ sts.length → (∀ (k : Nat) s, k < i → sts[k]? = some s → isX s.op = false) → hp i = hp 0
  | 0, _, _ => rfl
  | i + 1, hi, h => by
    have hs : sts[i]? = some sts[i] := List.getElem?_eq_getElem (by omega)
    rw [hc.quiet hs (h i _ (by omega) hs)]
    exact hc.quiets i (by omega) fun k s hk => h k s (by omega)
end

section
variable {Γ : Ctx} {N : Names} {P : Program} {cal : Nat → List AV → Heap → Option (List AV × Heap)} {ops : Array Oper} {sts : List St}

theorem getD_both {listed : Array Bool} {i : Nat} (h : listed.getD i true = false) : listed.getD i false = false := by
  rcases Nat.lt_or_ge i listed.size with h' | h'
  · simp [h'] at h ⊢; exact h
  · simp [Array.getElem?_eq_none h'] at h
theorem getD_in {listed : Array Bool} {i : Nat} (hi : i < listed.size) (h : listed.getD i false = false) : listed.getD i true = false := by
  simp [hi] at h ⊢; exact h

theorem waits_listed {listed : Array Bool} (hcl : ∀ (j : Nat) o, ops[j]? = some o → listed.getD j false = true → ∀ e ∈ o.after, Go.Region.binds .any e = true → listed.getD e.on false = true) {j i : Nat} (h : Waits ops j i) :
    listed.getD j false = true → listed.getD i false = true := by
  induction h with
  | one j o e ho he hb => exact fun hj => hcl j o ho hj e he hb
  | more j o e i ho he hb _ ih => exact fun hj => ih (hcl j o ho hj e he hb)

theorem ready_waits {listed : Array Bool} (hcl : ∀ (j : Nat) o, ops[j]? = some o → listed.getD j false = true → ∀ e ∈ o.after, Go.Region.binds .any e = true → listed.getD e.on false = true) {j i : Nat}
    (hj : j ∈ Go.Region.ready .any ops listed) (h : Waits ops j i) : listed.getD i false = true := by
  obtain ⟨_, o, ho, hall⟩ := Go.mem_ready.1 hj
  cases h with
  | one _ o' e ho' he hb => rw [ho] at ho'; cases ho'; exact hall e he hb
  | more _ o' e i ho' he hb hw => rw [ho] at ho'; cases ho'; exact waits_listed hcl hw (hall e he hb)

/-- Where a run stands that has carried out the listed statements. -/
structure Mid (N : Names) (Γ : Ctx) (ops : Array Oper) (sts : List St) (E : Nat → Env) (hp : Nat → Heap) (w0 : World) (S0 : Nat → Prop) (μ0 : Nat → Value) (a0 : Act) (listed : Array Bool) (a : Act) (w : World) : Prop where
  size : listed.size = sts.length
  closed : ∀ (j : Nat) o, ops[j]? = some o → listed.getD j false = true → ∀ e ∈ o.after, Go.Region.binds .any e = true → listed.getD e.on false = true
  tmps : a.tmps.size = a0.tmps.size
  defers : a.defers = a0.defers
  state : ∃ S μ k, Step N.fn w0 S0 μ0 (hp 0) w S μ (hp k) ∧ (∀ t, RelV N.fn w S μ (hp k) (look (E (lastW sts (fun i => listed.getD i false) t sts.length)) t) (a.tmps.getD t undef)) ∧ GlRel Γ N w S ∧
    ((k = 0 ∧ ∀ (m : Nat) s, listed.getD m false = true → sts[m]? = some s → isX s.op = false) ∨
      ∃ (x : Nat) (s : St), k = x + 1 ∧ listed.getD x false = true ∧ sts[x]? = some s ∧ isX s.op = true ∧ ∀ (m : Nat) s', x < m → listed.getD m false = true → sts[m]? = some s' → isX s'.op = false)

theorem getD_set {listed : Array Bool} {i m : Nat} (hi : i < listed.size) : (listed.setIfInBounds i true).getD m false = (if i = m then true else listed.getD m false) := by
  by_cases h : i = m
  · subst h; simp [hi]
  · simp [Array.getD_eq_getD_getElem?, Array.getElem?_setIfInBounds_ne h, h]

theorem draw_sound (hcal : CallOk Γ N P cal) {nt : Nat} (hD : Draw ops sts) (hst : ∀ (j : Nat) s, sts[j]? = some s → ∃ o, ops[j]? = some o ∧ chkSt P N ops nt o s = true) {E : Nat → Env} {hp : Nat → Heap} {val : Nat → AV}
    (hC : Course Γ cal sts E hp val) {w0 : World} {S0 : Nat → Prop} {μ0 : Nat → Value} {a0 : Act} (hn : nt ≤ a0.tmps.size) {Q : Exit → Act → World → Prop}
    (hQ : ∀ a' w' S' μ', Step N.fn w0 S0 μ0 (hp 0) w' S' μ' (hp sts.length) → Env.Rel Γ N w' S' μ' (hp sts.length) (look (E sts.length)) a' → a'.tmps.size = a0.tmps.size → a'.defers = a0.defers → Q .normal a' w') :
    ∀ (fuel : Nat) (todo : List Nat) (listed : Array Bool) (a : Act) (w : World), todo.Nodup → (∀ i, i ∈ todo ↔ i < sts.length ∧ listed.getD i false = false) → todo.length ≤ fuel →
      Mid N Γ ops sts E hp w0 S0 μ0 a0 listed a w → Go.wpAny P .any ops Q fuel listed a w := by
  have done : ∀ (listed : Array Bool) (a : Act) (w : World), Mid N Γ ops sts E hp w0 S0 μ0 a0 listed a w → Go.Region.ready .any ops listed = [] → Q .normal a w := by
    intro listed a w hM hrd
    have all : ∀ i, i < sts.length → listed.getD i false = true := by
      intro i
      induction i using Nat.strongRecOn with
      | _ i ih =>
        intro hi
        cases hl : listed.getD i false with
        | true => rfl
        | false =>
          have ho : ops[i]? = some (ops[i]'(by rw [← hD.len]; exact hi)) := Array.getElem?_eq_getElem _
          have : i ∈ Go.Region.ready .any ops listed := Go.mem_ready.2 ⟨getD_in (by rw [hM.size]; exact hi) hl, _, ho, fun e he hb => ih e.on (hD.back i _ ho e he hb) (by have := hD.back i _ ho e he hb; omega)⟩
          rw [hrd] at this; cases this
    obtain ⟨S, μ, k, h1, h2, h3, h4⟩ := hM.state
    have hk : hp k = hp sts.length := by
      rcases h4 with ⟨rfl, h4⟩ | ⟨x, s, rfl, _, hx, _, h4⟩
      · refine (hC.quiets sts.length (Nat.le_refl _) fun k s hk hs => h4 k s (all k hk) hs).symm
      · have := (List.getElem?_eq_some_iff.1 hx).1
        exact (hC.between sts.length (by omega) (Nat.le_refl _) fun m s' h1 h2 hs' => h4 m s' (by omega) (all m h2) hs').symm
    rw [hk] at h1 h2
    refine hQ a w S μ h1 ⟨fun t => ?_, h3⟩ hM.tmps hM.defers
    have := hC.agree (L := fun i => listed.getD i false) (t := t) (i := sts.length) (fun k hd => ⟨fun _ => by
      unfold dstOf at hd
      cases hs : sts[k]? with
      | none => rw [hs] at hd; cases hd
      | some s => exact (List.getElem?_eq_some_iff.1 hs).1, fun h => all k h⟩) sts.length (Nat.le_refl _)
    rw [Nat.min_self] at this
    rw [← this]
    exact h2 t
  intro fuel
  induction fuel with
  | zero =>
    intro todo listed a w hnd htodo hlen hM
    have hemp : todo = [] := by cases todo with | nil => rfl | cons x l => simp at hlen
    have hrd : Go.Region.ready .any ops listed = [] := by
      rw [List.eq_nil_iff_forall_not_mem]
      intro i hi
      obtain ⟨hun, o, ho, _⟩ := Go.mem_ready.1 hi
      have : i ∈ todo := (htodo i).2 ⟨by rw [hD.len]; exact (Array.getElem?_eq_some_iff.1 ho).1, getD_both hun⟩
      rw [hemp] at this; cases this
    exact ⟨hrd, done listed a w hM hrd⟩
  | succ fuel ih =>
    intro todo listed a w hnd htodo hlen hM
    refine ⟨done listed a w hM, fun i hi => ?_⟩
    obtain ⟨hun, o, ho, hall⟩ := Go.mem_ready.1 hi
    have hun := getD_both hun
    have hin : i < sts.length := by rw [hD.len]; exact (Array.getElem?_eq_some_iff.1 ho).1
    have hs : sts[i]? = some sts[i] := List.getElem?_eq_getElem hin
    generalize sts[i] = s at hs
    obtain ⟨o', ho', hso⟩ := hst i s hs
    rw [ho] at ho'; cases ho'
    obtain ⟨S, μ, k, h1, h2, h3, h4⟩ := hM.state
    have wl : ∀ {j}, Waits ops i j → listed.getD j false = true := fun h => ready_waits hM.closed hi h
    have lw : ∀ {j}, Waits ops j i → listed.getD j false = false := fun {j} h => by
      cases hj : listed.getD j false with
      | false => rfl
      | true => rw [waits_listed hM.closed h hj] at hun; cases hun
    -- memory is as in the order of the text, for those that look at it
    have xnf : ∀ {s : St}, isX s.op = true → isFree s.op = false := fun {s} h => by
      cases hs : s.op with
      | inl q => rw [hs] at h; cases h
      | inr x => cases x <;> rfl
    have hhp : isFree s.op = false → hp i = hp k ∨ (isX s.op = false ∧ ∃ X, hp k = hp i ++ X) := fun hf => by
      have below : (∃ (x : Nat) (s : St), x ≤ i ∧ sts[x]? = some s ∧ isX s.op = true) → ∀ (m : Nat) s', m < i → sts[m]? = some s' → isX s'.op = true → listed.getD m false = true := fun hx m s' hm hs' hx' => by
        rcases hD.tail i s hs hf hx m s' hm hs' (xnf hx') with ⟨_, h⟩ | h
        · rw [h] at hx'; cases hx'
        · exact wl h
      rcases h4 with ⟨rfl, h4⟩ | ⟨x, s', rfl, hxl, hx, hxx, h4⟩
      · refine .inl (hC.quiets i (by omega) fun m s' hm hs' => ?_)
        cases hx : isX s'.op with
        | false => rfl
        | true => rw [h4 m s' (below ⟨m, s', by omega, hs', hx⟩ m s' hm hs' hx) hs'] at hx; cases hx
      · have h6 : i ≠ x := fun h => by subst h; rw [hun] at hxl; cases hxl
        by_cases h5 : i < x
        · -- a block was made ahead of its turn
          have alloc : ∀ (m : Nat) (s2 : St), i ≤ m → m < x + 1 → sts[m]? = some s2 → isX s2.op = true → isAlloc s2.op = true ∧ isX s.op = false := fun m s2 h7 h8 hs2 hx2 => by
            have hm : i ≠ m → isAlloc s2.op = true ∧ isX s.op = false := fun hne => by
              rcases hD.tail m s2 hs2 (xnf hx2) ⟨m, s2, Nat.le_refl _, hs2, hx2⟩ i s (by omega) hs hf with h | h
              · exact h
              · have hml : listed.getD m false = true := by
                  by_cases hmx : m = x
                  · rw [hmx]; exact hxl
                  · rcases hD.tail x s' hx (xnf hxx) ⟨x, s', Nat.le_refl _, hx, hxx⟩ m s2 (by omega) hs2 (xnf hx2) with ⟨_, h⟩ | h
                    · rw [h] at hx2; cases hx2
                    · exact waits_listed hM.closed h hxl
                rw [lw h] at hml; cases hml
            by_cases hne : i = m
            · subst hne
              rw [hs] at hs2; cases hs2
              rcases hD.tail x s' hx (xnf hxx) ⟨x, s', Nat.le_refl _, hx, hxx⟩ i s h5 hs hf with ⟨_, h⟩ | h
              · rw [h] at hx2; cases hx2
              · rw [lw h] at hxl; cases hxl
            · exact hm hne
          have hxs := (List.getElem?_eq_some_iff.1 hx).1
          obtain ⟨X, hX⟩ := hC.grows (k := i) (x + 1) (by omega) (by omega) fun m s2 h7 h8 hs2 hx2 => (alloc m s2 h7 h8 hs2 hx2).1
          exact .inr ⟨(alloc x s' (by omega) (by omega) hx hxx).2, X, hX⟩
        · refine .inl (hC.between i (by omega) (by omega) fun m s2 h7 h8 hs2 => ?_)
          cases hx2 : isX s2.op with
          | false => rfl
          | true => rw [h4 m s2 (by omega) (below ⟨x, s', by omega, hx, hxx⟩ m s2 h8 hs2 hx2) hs2] at hx2; cases hx2
    -- names are as in the order of the text
    have hnm : ∀ t ∈ s.names, look (E (lastW sts (fun i => listed.getD i false) t sts.length)) t = look (E i) t := fun t ht => by
      have := hC.agree (L := fun i => listed.getD i false) (t := t) (i := i) (fun m hd => by
        unfold dstOf at hd
        obtain ⟨s', hs', hd⟩ := Option.bind_eq_some_iff.1 hd
        obtain ⟨n1, n2⟩ := hD.names i s hs t ht m s' hs' hd
        refine ⟨fun hm => ?_, fun hm => wl (n1 hm)⟩
        rcases Nat.lt_trichotomy m i with h | h | h
        · exact h
        · subst h; have hm : listed.getD m false = true := hm; rw [hm] at hun; cases hun
        · have hm : listed.getD m false = true := hm; rw [lw (n2 h)] at hm; cases hm) sts.length (Nat.le_refl _)
      rw [this, Nat.min_eq_left (by omega)]
    have hev := hC.one i s hs
    obtain ⟨Hn, hσ, hX, hQn⟩ : ∃ Hn, evOne Γ cal s (fun t => if t ∈ s.reads then look (E i) t else .any) (hp k) = some (val i, Hn) ∧ (isX s.op = true → Hn = hp (i + 1)) ∧ (isX s.op = false → Hn = hp k) := by
      have hσ : evOne Γ cal s (fun t => if t ∈ s.reads then look (E i) t else .any) (hp i) = some (val i, hp (i + 1)) := by
        rw [← hev]
        exact evOne_congr fun t ht => by simp [ht]
      cases hf : isFree s.op with
      | true => exact ⟨hp k, evOne_free hf hσ, (fun hx => by rw [xnf hx] at hf; exact Bool.noConfusion hf), fun _ => rfl⟩
      | false =>
        rcases hhp hf with h | ⟨hx, X, hX⟩
        · exact ⟨hp (i + 1), by rw [← h]; exact hσ, fun _ => rfl, fun hx => by rw [hC.quiet hs hx, h]⟩
        · exact ⟨hp k, by rw [hX]; exact evOne_up hx hσ, (fun h => by rw [hx] at h; cases h), fun _ => rfl⟩
    have he : Env.Rel Γ N w S μ (hp k) (fun t => if t ∈ s.reads then look (E i) t else .any) a := by
      refine ⟨fun t => ?_, h3⟩
      by_cases ht : t ∈ s.reads
      · have := h2 t
        rw [hnm t (by simp [St.names, ht])] at this
        rw [if_pos ht]
        exact this
      · rw [if_neg ht]; exact .any _
    have hr : Rel N.fn w S μ (hp k) := h1.rel
    refine one_sound hcal ho hso he hr hσ fun u w' S' μ' hstep hu => ?_
    have hd : ∀ d, s.dst = some d → d < a.tmps.size := fun d hd => by
      simp only [chkSt, hd, Bool.and_eq_true, decide_eq_true_eq] at hso
      rw [hM.tmps]; omega
    have hset := fun m => getD_set (m := m) (i := i) (listed := listed) (by rw [hM.size]; exact hin)
    refine ih (todo.erase i) (listed.setIfInBounds i true) _ w' (hnd.erase i) (fun j => ?_) ?_ ⟨by simp [hM.size], fun j oj hoj hj e he hb => ?_, by rw [put_size]; exact hM.tmps, by rw [put_defers]; exact hM.defers, S', μ', ?_⟩
    · rw [hnd.mem_erase_iff, htodo j, hset j]
      by_cases h : i = j
      · subst h; simp
      · simp [h, Ne.symm h]
    · rw [List.length_erase_of_mem ((htodo i).2 ⟨hin, hun⟩)]; omega
    · rw [hset j] at hj
      rw [hset e.on]
      by_cases h1 : i = e.on
      · rw [if_pos h1]
      · rw [if_neg h1]
        by_cases h2 : i = j
        · subst h2
          rw [ho] at hoj; cases hoj
          exact hall e he hb
        · rw [if_neg h2] at hj
          exact hM.closed j oj hoj hj e he hb
    · have hdd : dstOf sts i = s.dst := by simp [dstOf, hs]
      have step' : Step N.fn w S μ (hp k) w' S' μ' Hn := hstep
      have slots : ∀ t, RelV N.fn w' S' μ' Hn (look (E (lastW sts (fun m => (listed.setIfInBounds i true).getD m false) t sts.length)) t) ((a.put s.dst u).tmps.getD t undef) := fun t => by
        by_cases ht : s.dst = some t
        · rw [lastW_at (i := i) (by simp [hset]) (by rw [hdd]; exact ht) sts.length hin fun m hm hml hmd => ?_]
          · rw [hC.env i s hs, look_put, if_pos ht, ht, put_getD_eq (hd t ht)]
            exact hu
          · rw [hset m, if_neg (by omega)]
            unfold dstOf at hmd
            obtain ⟨s', hs', hmd⟩ := Option.bind_eq_some_iff.1 hmd
            exact lw ((hD.names i s hs t (by simp [St.names, ht]) m s' hs' hmd).2 hm)
        · rw [put_getD_ne ht, lastW_congr (L' := fun m => listed.getD m false) sts.length fun m _ hmd => ?_]
          · exact (h2 t).step h1.rel step'
          · rw [hset m, if_neg fun e => ?_]
            subst e; rw [hdd] at hmd; exact ht hmd
      have ssteps : Step N.fn w0 S0 μ0 (hp 0) w' S' μ' Hn := h1.trans step'
      cases hx : isX s.op with
      | true =>
        have e := hX hx
        subst e
        refine ⟨i + 1, ssteps, slots, h3.step h1.rel step', .inr ⟨i, s, rfl, by simp [hset], hs, hx, fun m s' hm hl hs' => ?_⟩⟩
        rw [hset m, if_neg (by omega)] at hl
        cases hx' : isX s'.op with
        | false => rfl
        | true =>
          rcases hD.tail m s' hs' (xnf hx') ⟨m, s', Nat.le_refl _, hs', hx'⟩ i s hm hs (xnf hx) with ⟨_, h⟩ | h
          · rw [hx] at h; cases h
          · rw [lw h] at hl; cases hl
      | false =>
        have e := hQn hx
        subst e
        refine ⟨k, ssteps, slots, h3.step h1.rel step', ?_⟩
        rcases h4 with ⟨hk0, h4⟩ | ⟨x, s', hk, hxl, h5, h6, h4⟩
        · refine .inl ⟨hk0, fun m s' hm hs' => ?_⟩
          rw [hset m] at hm
          by_cases h : i = m
          · subst h; rw [hs] at hs'; cases hs'; exact hx
          · rw [if_neg h] at hm; exact h4 m s' hm hs'
        · have hxl' : (listed.setIfInBounds i true).getD x false = true := by
            rw [hset x]
            split
            · rfl
            · exact hxl
          refine .inr ⟨x, s', hk, hxl', h5, h6, fun m s2 hm hl hs2 => ?_⟩
          rw [hset m] at hl
          by_cases h : i = m
          · subst h; rw [hs] at hs2; cases hs2; exact hx
          · rw [if_neg h] at hl; exact h4 m s2 hm hl hs2
end
end Ab
