/- Code: what the abstract machine runs, the model runs. -/
import Derived.Test.YtgdkafbcchkplaaGreatDoorAbY7
import Derived.LoopN
import Derived.Scope
namespace Ab
open Go (IntKind BinOp UnOp World Value Addr Obj undef maxLen Program TypeId Oper Op Operand Act Sem Next Result execOp Builtin Calls Ending Exit)

def chkSts (P : Program) (N : Names) (ops : Array Oper) (nt : Nat) : List Oper → List St → Bool
  | [], [] => true
  | o :: os, s :: ss => chkSt P N ops nt o s && chkSts P N ops nt os ss
  | _, _ => false

def chkC (P : Program) (N : Names) (nt : Nat) : Go.Code → Code → Bool
  | .skip, .skip => true
  | .label _, .skip => true
  | .region _ ops draw, .ops _ l => chkSts P N ops nt ops.toList l && (match draw with | true => drawOk ops.toList l | false => true)
  | .seq a b, .seq a' b' => chkC P N nt a a' && chkC P N nt b b'
  | .cond c a b, .cond c' a' b' => chkArg N c c' && chkC P N nt a a' && chkC P N nt b b'
  | .block id c, .block _ id' c' => id == id' && chkC P N nt c c'
  | .loop c, .loop _ _ c' => chkC P N nt c c'
  | .exit id, .exit id' => id == id'
  | .ret, .ret => true
  | _, .bad => true
  | .scope c, c' => chkC P N nt c c'
  | _, _ => false

theorem chkSts_spec {P N ops nt} : ∀ {os ss}, chkSts P N ops nt os ss = true → ss.length = os.length ∧ ∀ (j : Nat) s, ss[j]? = some s → ∃ o, os[j]? = some o ∧ chkSt P N ops nt o s = true
  | [], [], _ => ⟨rfl, by simp⟩
  | o :: os, s :: ss, h => by
    simp only [chkSts, Bool.and_eq_true] at h
    obtain ⟨h1, h2⟩ := chkSts_spec h.2
    refine ⟨by simp [h1], fun j s' hj => ?_⟩
    cases j with
    | zero => simp only [List.getElem?_cons_zero, Option.some.injEq] at hj; subst hj; exact ⟨o, rfl, h.1⟩
    | succ j => simpa using h2 j s' (by simpa using hj)
  | [], _ :: _, h => by cases h
  | _ :: _, [], h => by cases h

def exitOf : Ex → Exit
  | .nrm => .normal
  | .ex i => .exit i
  | .ret => .ret

section
variable {Γ : Ctx} {N : Names} {P : Program}

/-- Where a run may go on. -/
def After (Γ : Ctx) (N : Names) (w : World) (S : Nat → Prop) (μ : Nat → Value) (H : Heap) (a : Act) (env' : Env) (H' : Heap) (K : Act → World → Prop) : Prop :=
  ∀ a' w' S' μ', Run N.fn w S μ H w' S' μ' H' → Env.Rel Γ N w' S' μ' H' (look env') a' → a'.tmps.size = a.tmps.size → a'.defers = a.defers → K a' w'

def CodeAt (Γ : Ctx) (N : Names) (P : Program) (n : Nat) : Prop :=
  ∀ (nt : Nat) (c : Go.Code) (c' : Code) (env : Env) (H : Heap) (e : Ex) (env' : Env) (H' : Heap), chkC P N nt c c' = true → ev Γ n c' env H = some (e, env', H') →
    ∀ w S μ a (Q : Exit → Act → World → Prop), Rel N.fn w S μ H → Env.Rel Γ N w S μ H (look env) a → nt ≤ a.tmps.size → After Γ N w S μ H a env' H' (Q (exitOf e)) → c.wp P Q a w
def RoundsAt (Γ : Ctx) (N : Names) (P : Program) (n : Nat) : Prop :=
  ∀ (nt : Nat) (c : Go.Code) (c' : Code) (live : List Nat) (gc : Bool) (env : Env) (H : Heap) (e : Ex) (env' : Env) (H' : Heap), chkC P N nt c c' = true → ev Γ n (.loop live gc c') env H = some (e, env', H') →
    ∀ w S μ a (Q : Exit → Act → World → Prop), Rel N.fn w S μ H → Env.Rel Γ N w S μ H (look env) a → nt ≤ a.tmps.size → After Γ N w S μ H a env' H' (Q (exitOf e)) → Go.Code.rounds P c Q n a w

theorem After.trans {w w1 : World} {S S1 : Nat → Prop} {μ μ1 : Nat → Value} {H H1 H' : Heap} {a a1 : Act} {env' : Env} {K : Act → World → Prop} (h : After Γ N w S μ H a env' H' K)
    (hr : Run N.fn w S μ H w1 S1 μ1 H1) (hs : a1.tmps.size = a.tmps.size) (hd : a1.defers = a.defers) : After Γ N w1 S1 μ1 H1 a1 env' H' K :=
  fun a' w' S' μ' hr' he hs' hd' => h a' w' S' μ' (hr.trans hr') he (hs'.trans hs) (hd'.trans hd)

theorem region_sound (hm : P.follows .mixedOrders = true) {cal : Nat → List AV → Heap → Option (List AV × Heap)} (hcal : CallOk Γ N P cal) {nt id : Nat} {ops : Array Oper} {draw : Bool} {l : List St} {env env' : Env} {H H' : Heap} {w : World} {S : Nat → Prop} {μ : Nat → Value} {a : Act}
    {Q : Exit → Act → World → Prop} (hc : chkSts P N ops nt ops.toList l = true) (hd : draw = true → drawOk ops.toList l = true) (hv : evSts Γ cal l env H = some (env', H')) (hr : Rel N.fn w S μ H) (he : Env.Rel Γ N w S μ H (look env) a)
    (hn : nt ≤ a.tmps.size) (hQ : After Γ N w S μ H a env' H' (Q .normal)) : (Go.Code.region id ops draw).wp P Q a w := by
  obtain ⟨hl, hst⟩ := chkSts_spec hc
  have hl : l.length = ops.size := by simpa using hl
  have hst : ∀ (j : Nat) s, l[j]? = some s → ∃ o, ops[j]? = some o ∧ chkSt P N ops nt o s = true := fun j s hj => by
    obtain ⟨o, h1, h2⟩ := hst j s hj
    exact ⟨o, by simpa using h1, h2⟩
  cases draw with
  | false =>
    refine Go.wp_region ?_
    rw [List.range_eq_range', ← hl]
    exact sts_sound hcal l 0 (fun j s hj => by simpa using hst j s hj) hv hr he hn fun a' w' S' μ' h1 h2 h3 h4 => hQ a' w' S' μ' h1.run h2 h3 h4
  | true =>
    refine Go.wp_region_any hm ?_
    obtain ⟨E, hp, val, hC, rfl, rfl, rfl, rfl⟩ := course_of l hv
    have hdrew : Step N.fn w S μ (hp 0) { w with drawn := w.drawn + 1 } S μ (hp 0) := .grow hr (Grows.drew w) (fun _ h => h) (fun g h => Nat.lt_of_lt_of_le (hr.lt g h) (Grows.drew w).size) (fun _ h => .inl h)
    have hrep : ∀ i, (Array.replicate ops.size false).getD i false = false := fun i => by
      rcases Nat.lt_or_ge i ops.size with h | h
      · simp [h]
      · simp [h]
    have e0 : ∀ n t, lastW l (fun i => (Array.replicate ops.size false).getD i false) t n = 0 := fun n t => by
      induction n with
      | zero => rfl
      | succ n ih => unfold lastW; rw [if_neg (by simp [hrep]), ih]
    refine draw_sound hcal (drawOk_spec hl (hd rfl)) hst hC (w0 := { w with drawn := w.drawn + 1 }) (S0 := S) (μ0 := μ) (a0 := a) hn (fun a' w' S' μ' h1 h2 h3 h4 => hQ a' w' S' μ' (hdrew.run.trans h1.run) h2 h3 h4)
      ops.size (List.range ops.size) _ a _ List.nodup_range (fun i => ?_) (by simp) ⟨by simp [hl], fun j o _ hj => ?_, rfl, rfl, S, μ, 0, .refl hdrew.rel, fun t => ?_, GlRel.step hr hdrew he.gl, .inl ⟨rfl, fun m s hm => ?_⟩⟩
    · rw [hrep i, hl]; simp
    · rw [hrep j] at hj; cases hj
    · rw [e0]; exact (he.env t).step hr hdrew
    · rw [hrep m] at hm; cases hm

theorem code_both (hm : P.follows .mixedOrders = true) : ∀ n, (∀ m < n, CallOk Γ N P (callOf Γ (ev Γ m))) → CodeAt Γ N P n ∧ RoundsAt Γ N P n
  | 0, _ => ⟨fun _ _ _ _ _ _ _ _ _ h => by simp [ev] at h, fun _ _ _ _ _ _ _ _ _ _ _ h => by simp [ev] at h⟩
  | n + 1, hcal => by
    obtain ⟨ihC, ihR⟩ := code_both hm n fun m h => hcal m (by omega)
    have hR : RoundsAt Γ N P (n + 1) := by
      intro nt c c' live gc env H e env' H' hc hv w S μ a Q hr he hn hQ
      rw [Go.rounds_succ]
      simp only [ev] at hv
      split at hv
      · cases hv
      · rename_i e1 h1 hnorm
        obtain ⟨μ1, hrun, he1⟩ := norm_sound hr he hnorm
        split at hv
        · rename_i env2 H2 hb
          refine ihC nt c c' e1 h1 _ _ _ hc hb w S μ1 a _ hrun.rel he1 hn fun a2 w2 S2 μ2 hrun2 he2 hs2 hd2 => ?_
          exact ihR nt c c' live gc env2 H2 e env' H' hc hv w2 S2 μ2 a2 Q hrun2.rel he2 (by omega) (hQ.trans (hrun.trans hrun2) hs2 hd2)
        · rename_i hno
          obtain ⟨ex, env2, H2⟩ : Out := (e, env', H')
          refine ihC nt c c' e1 h1 _ _ _ hc hv w S μ1 a _ hrun.rel he1 hn ?_
          have hQ := hQ.trans hrun rfl rfl
          cases e with
          | nrm => exact absurd hv (hno _ _)
          | ex i => exact hQ
          | ret => exact hQ
    refine ⟨?_, hR⟩
    intro nt c
    induction c with
    | scope c ih =>
      intro c' env H e env' H' hc hv w S μ a Q hr he hn hQ
      have hc : chkC P N nt c c' = true := by cases c' <;> first | exact hc | (simp [ev] at hv)
      refine Go.wp_scope_straight (ih c' env H e env' H' hc hv w S μ a _ hr he hn ?_)
      cases e <;> exact hQ
    | skip =>
      intro c' env H e env' H' hc hv w S μ a Q hr he hn hQ
      have nobad : c' ≠ .bad := by rintro rfl; simp [ev] at hv
      cases c' <;> first | (exact Bool.noConfusion hc) | (exact absurd rfl nobad) | skip
      simp only [ev, Option.some.injEq, Prod.mk.injEq] at hv
      obtain ⟨rfl, rfl, rfl⟩ := hv
      exact Go.wp_skip (hQ a w S μ (.refl hr) he rfl rfl)
    | label l =>
      intro c' env H e env' H' hc hv w S μ a Q hr he hn hQ
      have nobad : c' ≠ .bad := by rintro rfl; simp [ev] at hv
      cases c' <;> first | (exact Bool.noConfusion hc) | (exact absurd rfl nobad) | skip
      simp only [ev, Option.some.injEq, Prod.mk.injEq] at hv
      obtain ⟨rfl, rfl, rfl⟩ := hv
      exact Go.wp_label (hQ a w S μ (.refl hr) he rfl rfl)
    | ret =>
      intro c' env H e env' H' hc hv w S μ a Q hr he hn hQ
      have nobad : c' ≠ .bad := by rintro rfl; simp [ev] at hv
      cases c' <;> first | (exact Bool.noConfusion hc) | (exact absurd rfl nobad) | skip
      simp only [ev, Option.some.injEq, Prod.mk.injEq] at hv
      obtain ⟨rfl, rfl, rfl⟩ := hv
      exact Go.wp_ret (hQ a w S μ (.refl hr) he rfl rfl)
    | exit id =>
      intro c' env H e env' H' hc hv w S μ a Q hr he hn hQ
      have nobad : c' ≠ .bad := by rintro rfl; simp [ev] at hv
      cases c' <;> first | (exact Bool.noConfusion hc) | (exact absurd rfl nobad) | skip
      simp only [ev, Option.some.injEq, Prod.mk.injEq] at hv
      obtain ⟨rfl, rfl, rfl⟩ := hv
      simp only [chkC, beq_iff_eq] at hc
      subst hc
      exact Go.wp_exit (hQ a w S μ (.refl hr) he rfl rfl)
    | region id ops draw =>
      intro c' env H e env' H' hc hv w S μ a Q hr he hn hQ
      have nobad : c' ≠ .bad := by rintro rfl; simp [ev] at hv
      cases c' <;> first | (exact Bool.noConfusion hc) | (exact absurd rfl nobad) | skip
      rename_i live l
      simp only [ev, Option.map_eq_some_iff, Prod.mk.injEq] at hv
      obtain ⟨⟨env1, H1⟩, hv, rfl, rfl, rfl⟩ := hv
      simp only [chkC, Bool.and_eq_true] at hc
      refine region_sound hm (hcal n (by omega)) hc.1 (fun h => by subst h; exact hc.2) hv hr he hn fun a' w' S' μ' h1 h2 h3 h4 => ?_
      exact hQ a' w' S' μ' h1 (h2.prune live) h3 h4
    | seq x y _ _ =>
      intro c' env H e env' H' hc hv w S μ a Q hr he hn hQ
      have nobad : c' ≠ .bad := by rintro rfl; simp [ev] at hv
      cases c' <;> first | (exact Bool.noConfusion hc) | (exact absurd rfl nobad) | skip
      rename_i x' y'
      simp only [chkC, Bool.and_eq_true] at hc
      refine Go.wp_seq ?_
      simp only [ev] at hv
      split at hv
      · rename_i env1 H1 h1
        refine ihC nt x x' _ _ _ _ _ hc.1 h1 w S μ a _ hr he hn fun a1 w1 S1 μ1 hrun he1 hs hd => ?_
        exact ihC nt y y' _ _ _ _ _ hc.2 hv w1 S1 μ1 a1 Q hrun.rel he1 (by omega) (hQ.trans hrun hs hd)
      · rename_i hno
        refine ihC nt x x' _ _ _ _ _ hc.1 hv w S μ a _ hr he hn ?_
        cases e with
        | nrm => exact absurd hv (hno _ _)
        | ex i => exact hQ
        | ret => exact hQ
    | cond g x y _ _ =>
      intro c' env H e env' H' hc hv w S μ a Q hr he hn hQ
      have nobad : c' ≠ .bad := by rintro rfl; simp [ev] at hv
      cases c' <;> first | (exact Bool.noConfusion hc) | (exact absurd rfl nobad) | skip
      rename_i g' x' y'
      simp only [chkC, Bool.and_eq_true] at hc
      have hg := he.arg hc.1.1
      simp only [ev] at hv
      split at hv
      · rename_i t ht
        rw [ht] at hg
        refine Go.wp_cond hg.bool_inv ?_
        cases t with
        | true => exact ihC nt x x' _ _ _ _ _ hc.1.2 hv w S μ a Q hr he hn hQ
        | false => exact ihC nt y y' _ _ _ _ _ hc.2 hv w S μ a Q hr he hn hQ
      · cases hv
    | block id x _ =>
      intro c' env H e env' H' hc hv w S μ a Q hr he hn hQ
      have nobad : c' ≠ .bad := by rintro rfl; simp [ev] at hv
      cases c' <;> first | (exact Bool.noConfusion hc) | (exact absurd rfl nobad) | skip
      rename_i live id' x'
      simp only [chkC, Bool.and_eq_true, beq_iff_eq] at hc
      obtain ⟨rfl, hc⟩ := hc
      refine Go.wp_block ?_
      simp only [ev] at hv
      split at hv
      · rename_i env1 H1 h1
        simp only [Option.some.injEq, Prod.mk.injEq] at hv
        obtain ⟨rfl, rfl, rfl⟩ := hv
        exact ihC nt x x' _ _ _ _ _ hc h1 w S μ a _ hr he hn fun a1 w1 S1 μ1 hrun he1 hs hd => hQ a1 w1 S1 μ1 hrun (he1.prune live) hs hd
      · rename_i i env1 H1 h1
        refine ihC nt x x' _ _ _ _ _ hc h1 w S μ a _ hr he hn fun a1 w1 S1 μ1 hrun he1 hs hd => ?_
        simp only [exitOf, Go.Exit.inBlock]
        split at hv
        · rename_i hi
          simp only [Option.some.injEq, Prod.mk.injEq] at hv
          obtain ⟨rfl, rfl, rfl⟩ := hv
          rw [if_pos hi]
          exact hQ a1 w1 S1 μ1 hrun (he1.prune live) hs hd
        · rename_i hi
          simp only [Option.some.injEq, Prod.mk.injEq] at hv
          obtain ⟨rfl, rfl, rfl⟩ := hv
          rw [if_neg hi]
          exact hQ a1 w1 S1 μ1 hrun he1 hs hd
      · rename_i h1 h2
        refine ihC nt x x' _ _ _ _ _ hc hv w S μ a _ hr he hn fun a1 w1 S1 μ1 hrun he1 hs hd => ?_
        cases e with
        | nrm => exact absurd hv (h1 _ _)
        | ex i => exact absurd hv (h2 _ _ _)
        | ret => exact hQ a1 w1 S1 μ1 hrun he1 hs hd
    | loop x _ =>
      intro c' env H e env' H' hc hv w S μ a Q hr he hn hQ
      have nobad : c' ≠ .bad := by rintro rfl; simp [ev] at hv
      cases c' <;> first | (exact Bool.noConfusion hc) | (exact absurd rfl nobad) | skip
      rename_i live gc x'
      simp only [chkC] at hc
      exact Go.wp_loop_rounds (n + 1) (hR nt x x' live gc env H e env' H' hc hv w S μ a Q hr he hn hQ)
    | rangeFunc f ps x y => intro c' _ _ _ _ _ hc hv; cases c' <;> first | (exact Bool.noConfusion hc) | (simp [ev] at hv)
    | goto l => intro c' _ _ _ _ _ hc hv; cases c' <;> first | (exact Bool.noConfusion hc) | (simp [ev] at hv)
    | refuse s => intro c' _ _ _ _ _ hc hv; cases c' <;> first | (exact Bool.noConfusion hc) | (simp [ev] at hv)
end
end Ab
