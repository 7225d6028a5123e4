/- Functions: a call that the abstract machine answers, the model answers. -/
import Derived.Test.YtgdkafbcchkplaaGreatDoorAbY8
namespace Ab
open Go (IntKind BinOp UnOp World Value Addr Obj undef maxLen Program TypeId Oper Op Operand Act Sem Next Result execOp Builtin Calls Ending Exit)

def chkRes (P : Program) : List Go.ResultVar → List RV → Bool
  | [], [] => true
  | .tmp t :: rs, .slot t' :: ss => t == t' && chkRes P rs ss
  | .cell t T :: rs, .cell t' sz ag :: ss => t == t' && aggT P T ag && sizeT P T sz && chkRes P rs ss
  | _, _ => false

def chkF (P : Program) (N : Names) (g : Go.Func) (fn : AFn) : Bool :=
  decide (fn.np ≤ g.ntmps) && chkRes P g.results.toList fn.results && !(g.name == "runtime.NumGoroutine") && (match g.body with | some c => chkC P N g.ntmps c fn.body | none => false)

/-- What is known of a function that is no code of ours. -/
def PrimOk (Γ : Ctx) (N : Names) (P : Program) (f : Nat) (g : List PV → Option (List PV)) : Prop :=
  ∀ ps rs, g ps = some rs → ∀ w S us, (∀ g, S g → g < w.heap.size) → GlRel Γ N w S → All2 (fun u p => RelP N.fn w S p u) us ps →
    Does P (N.fn f) us.toArray w (fun v w' => ∃ vs S', v = resVal vs ∧ Grows w w' ∧ (∀ g, S g → S' g) ∧ (∀ g, S' g → g < w'.heap.size) ∧ (∀ g, S' g → S g ∨ w.heap.size ≤ g) ∧
      All2 (fun u p => RelP N.fn w' S' p u) vs rs)

structure Known (Γ : Ctx) (N : Names) (P : Program) : Prop where
  mixed : P.follows .mixedOrders = true
  code : ∀ f fn, Γ.fn f = some (.code fn) → ∃ g, P.funcs[N.fn f]? = some g ∧ chkF P N g fn = true
  prim : ∀ f g, Γ.fn f = some (.prim g) → PrimOk Γ N P f g

section
variable {Γ : Ctx} {N : Names} {P : Program}

theorem look_init : ∀ {args : List AV} {t : Nat}, look (initEnv args) t = (args[t]?).getD .any := by
  have key : ∀ (args : List AV) (k t : Nat), look ((args.zipIdx k).map fun x => (x.2, x.1)) t = if k ≤ t then (args[t - k]?).getD .any else .any := by
    intro args
    induction args with
    | nil => intro k t; simp [look]
    | cons x r ih =>
      intro k t
      simp only [List.zipIdx_cons, List.map_cons, look]
      by_cases h : k = t
      · subst h; simp
      · rw [if_neg h, ih]
        by_cases hk : k ≤ t
        · rw [if_pos (by omega), if_pos hk, show t - k = (t - (k + 1)) + 1 by omega]; simp
        · rw [if_neg (by omega), if_neg hk]
  intro args t
  have := key args 0 t
  simpa [initEnv] using this

def resOf (tmps : Array Value) : Go.ResultVar → Sem Value
  | .tmp t => pure (tmps.getD t undef)
  | .cell x t => do Go.loadVar t (← Go.asAddr (tmps.getD x undef))

theorem loadA_ptr {w : World} {S : Nat → Prop} {μ : Nat → Value} {H : Heap} {x : Value} {x' v : AV} {sz : Nat} {ag : Bool} (_hr : Rel N.fn w S μ H) (hx : RelV N.fn w S μ H x' x) (hv : loadA H sz ag x' = some v) : ∃ ad, x = .pointer (some ad) := by
  unfold loadA at hv
  split at hv
  · cases hx with
    | p _ _ hx => cases hx with
      | ptr cells ad => exact ⟨ad, rfl⟩
  · cases hx with
    | bx _ _ g _ _ _ h => exact ⟨_, h⟩
  · rename_i id n i off
    obtain ⟨r, hb, hv⟩ := Option.bind_eq_some_iff.1 hv
    obtain ⟨y, hy, hv⟩ := Option.bind_eq_some_iff.1 hv
    obtain ⟨f, hb, hn⟩ := rowOf_spec hb
    have hi : i < n := by rw [← hn]; exact (List.getElem?_eq_some_iff.1 hy).1
    cases hx with
    | el _ _ _ _ _ hl h hone =>
    obtain ⟨_, h4⟩ := h f _ _ hb
    obtain ⟨g, cap, h5, rfl⟩ := h4 hn.symm hi
    exact ⟨_, rfl⟩
  · cases hv

theorem results_sound {w : World} {S : Nat → Prop} {μ : Nat → Value} {H : Heap} {a : Act} {env : Env} (hrel : Rel N.fn w S μ H) (he : Env.Rel Γ N w S μ H (look env) a) : ∀ {rs : List Go.ResultVar} {ss : List RV} {vs : List AV}, chkRes P rs ss = true → mapO (RV.get env H) ss = some vs →
    ∃ us, (rs.mapM (resOf a.tmps)).run P w = .ok us w ∧ All2 (fun u x => RelV N.fn w S μ H x u) us vs
  | [], [], vs, _, h => by
    simp only [mapO, Option.some.injEq] at h; subst h
    exact ⟨[], by simp, trivial⟩
  | .tmp t :: rs, .slot t' :: ss, vs, hc, h => by
    simp only [chkRes, Bool.and_eq_true, beq_iff_eq] at hc
    obtain ⟨rfl, hc⟩ := hc
    simp only [mapO, RV.get] at h
    split at h
    · rename_i xs hxs
      simp only [Option.some.injEq] at h; subst h
      obtain ⟨us, h1, h2⟩ := results_sound hrel he hc hxs
      refine ⟨a.tmps.getD t undef :: us, ?_, he.env t, h2⟩
      simp only [List.mapM_cons, resOf, Go.Sem.run_bind, Go.Sem.run_pure, Go.Result.andThen_ok, h1]
    · cases h
  | .cell t T :: rs, .cell t' sz ag :: ss, vs, hc, h => by
    simp only [chkRes, Bool.and_eq_true, beq_iff_eq] at hc
    obtain ⟨⟨⟨rfl, hc1⟩, hc2⟩, hc⟩ := hc
    simp only [mapO, RV.get] at h
    split at h
    · rename_i x hx
      split at h
      · rename_i xs hxs
        simp only [Option.some.injEq] at h; subst h
        obtain ⟨us, h1, h2⟩ := results_sound hrel he hc hxs
        obtain ⟨ad, had⟩ := loadA_ptr hrel (he.env t) hx
        obtain ⟨u, h3, h4⟩ := q_load (P := P) hrel (aggT_spec hc1) (sizeT_spec hc2) (he.env t) hx
        rw [had] at h3
        have h3 : (Go.loadVar T ad).run P w = .ok u w := by simpa [Go.Instr.loadAt, Go.Instr.sureAddr] using h3
        refine ⟨u :: us, ?_, h4, h2⟩
        simp only [List.mapM_cons, resOf, had, Go.asAddr, Go.Sem.run_bind, Go.Sem.run_pure, Go.Result.andThen_ok, h3, h1]
      · cases h
    · cases h
  | .cell _ _ :: _, .slot _ :: _, _, hc, _ => by simp [chkRes] at hc
  | .tmp _ :: _, .cell _ _ _ :: _, _, hc, _ => by simp [chkRes] at hc
  | [], _ :: _, _, hc, _ => by simp [chkRes] at hc
  | .tmp _ :: _, [], _, hc, _ => by simp [chkRes] at hc
  | .cell _ _ :: _, [], _, hc, _ => by simp [chkRes] at hc

theorem run_results {fn : Go.Func} {tmps : Array Value} {w : World} {us : List Value}
    (h : (fn.results.toList.mapM (resOf tmps)).run P w = .ok us w) :
    (Go.results fn tmps).run P w = .ok (resVal us) w := by
  have e : Go.results fn tmps = (do let vs ← fn.results.mapM (resOf tmps); pure (if h : vs.size = 1 then vs[0] else .tuple vs)) := rfl
  rw [e, Array.mapM_eq_mapM_toList]
  simp only [Go.Sem.run_bind, h, Go.Result.andThen_ok, bind_assoc, map_eq_pure_bind, pure_bind, Go.Sem.run_pure]
  match us with
  | [] => simp [resVal]
  | [x] => simp [resVal]
  | x :: y :: r => simp [resVal]

theorem all_ok (K : Known Γ N P) : ∀ n, CallOk Γ N P (callOf Γ (ev Γ n)) := by
  intro n
  induction n using Nat.strongRecOn with
  | _ n ih =>
    intro f args H rs H' hc
    have hcode := (code_both (Γ := Γ) (N := N) (P := P) K.mixed n ih).1
    unfold callOf at hc
    split at hc
    · rename_i g hg
      split at hc
      · rename_i ps hps
        split at hc
        · rename_i qs hqs
          simp only [Option.some.injEq, Prod.mk.injEq] at hc
          obtain ⟨rfl, rfl⟩ := hc
          have h2 := K.prim f g hg ps qs hqs
          refine fun w S μ us hr hgl ha => (h2 w S us hr.lt hgl ?_).mono ?_
          · have := pures_spec hps
            subst this
            have ha := ha.get
            refine .of_get (by simpa using ha.1) fun j x y hx hy => ?_
            exact (ha.2 j x (.p y) hx (by simp [hy])).p_inv
          · rintro e w' ⟨vs, S', rfl, hg, g1, g2, g3, hv⟩
            exact ⟨vs, S', μ, rfl, (Step.grow hr hg g1 g2 g3).run, All2.map_right (hv.imp fun u p h => .p _ _ h)⟩
        · cases hc
      · cases hc
    · rename_i fn hf
      obtain ⟨g, hg, hchk⟩ := K.code f fn hf
      simp only [chkF, Bool.and_eq_true, decide_eq_true_eq] at hchk
      obtain ⟨⟨⟨c1, c2⟩, c3⟩, c4⟩ := hchk
      split at c4
      rotate_left
      · cases c4
      rename_i body hbody
      split at hc
      rotate_left
      · cases hc
      rename_i hlen
      have henter : Enters P (N.fn f) := fun us w => by
        have hnm : (g.name == "runtime.NumGoroutine") = false := by simpa using c3
        simp only [beq_eq_false_iff_ne, ne_eq] at hnm
        simp [Go.callFunc, hg, hnm, hbody]
      intro w S μ us hr hgl ha
      refine .inl ⟨henter _ _, Go.calls_of_wp hg hbody ?_⟩
      have hul : us.length = args.length := ha.get.1
      have he0 : Env.Rel Γ N w S μ H (look (initEnv args)) { tmps := us.toArray ++ Array.replicate (g.ntmps - us.toArray.size) undef, defers := [] } := by
        refine ⟨fun t => ?_, hgl⟩
        rw [look_init]
        rcases Nat.lt_or_ge t args.length with h | h
        · rw [List.getElem?_eq_getElem h, Option.getD_some]
          have := ha.get.2 t (us[t]'(by omega)) args[t] (List.getElem?_eq_getElem _) (List.getElem?_eq_getElem _)
          have e : (us.toArray ++ Array.replicate (g.ntmps - us.toArray.size) undef).getD t undef = us[t]'(by omega) := by
            rw [Array.getD_eq_getD_getElem?, Array.getElem?_append_left (by simp; omega)]
            simp [List.getElem?_eq_getElem (show t < us.length by omega)]
          rw [e]; exact this
        · rw [List.getElem?_eq_none h, Option.getD_none]; exact .any _
      split at hc
      · cases hc
      · rename_i ex env' H1 hno hev
        split at hc
        · rename_i vs hvs
          simp only [Option.some.injEq, Prod.mk.injEq] at hc
          obtain ⟨rfl, rfl⟩ := hc
          refine hcode g.ntmps body fn.body (initEnv args) H ex env' H1 c4 hev w S μ _ _ hr he0 (by simp; omega) fun a' w' S' μ' hrun he' hs hd => ?_
          obtain ⟨us', h1, h2⟩ := results_sound hrun.rel he' c2 hvs
          have h3 := run_results h1
          cases ex with
          | nrm => exact ⟨hd, _, h3, _, rfl, us', S', μ', rfl, hrun, h2⟩
          | ret => exact ⟨hd, _, h3, _, rfl, us', S', μ', rfl, hrun, h2⟩
          | ex i => exact (hno i rfl).elim
        · cases hc
      · cases hc
    · cases hc

/-- What the abstract machine answers, called with trees, the model answers. -/
theorem run_sound (K : Known Γ N P) {n f : Nat} {ps rs : List PV} {r : List AV × Heap} {us : List Value} {w : World} {T : Nat → Prop} (hT : ∀ g, T g → g < w.heap.size) (hgl : GlRel Γ N w T)
    (ha : All2 (fun u p => RelP N.fn w T p u) us ps) (hc : callOf Γ (ev Γ n) f (ps.map .p) [] = some r) (hrs : mapO (reify r.2 4) r.1 = some rs) :
    Does P (N.fn f) us.toArray w (fun v w' => ∃ vs, v = resVal vs ∧ Grows w w' ∧
      All2 (fun u p => RelP N.fn w' (fun g => T g ∨ (w.heap.size ≤ g ∧ g < w'.heap.size)) p u) vs rs) :=
  pure_call (all_ok K n) hT hgl ha hc hrs
end
end Ab
