import Derived.Test.YtiaplnepogjedaaGreatDoorAbY8
import Derived.Test.YtiaplnepogjedaaGreatDoorAbPrim
import Derived.Lib.Bytealg
import Derived.Carry
import Derived.ChangeSame
import Derived.RowKit
import Derived.Test.YtiaplnepogjedaaGreatDoorAbRow
namespace Ab
open Go (IntKind BinOp UnOp World Value Addr Obj undef maxLen Program TypeId Oper Op Operand Act Sem Next Result execOp Builtin Calls Ending Exit)

def chkRes (P : Program) : List Go.ResultVar → List RV → Bool
  | [], [] => true
  | .tmp t :: rs, .slot t' :: ss => t == t' && chkRes P rs ss
  | .cell t T :: rs, .cell t' sz ag :: ss => t == t' && aggT P T ag && sizeT P T sz && chkRes P rs ss
  | _, _ => false

def chkF (P : Program) (N : Names) (g : Go.Func) (fn : AFn) : Bool :=
  decide (fn.np ≤ g.ntmps) && chkRes P g.results.toList fn.results && !(g.name == "runtime.NumGoroutine") && (match g.body with | some c => chkC P N g.ntmps c fn.body | none => false)

def PrimOk (Γ : Ctx) (N : Names) (P : Program) (f : Nat) (g : List PV → Option (List PV)) : Prop :=
  ∀ ps rs, g ps = some rs → ∀ w S us, (∀ g, S g → g < w.heap.size) → GlRel Γ N w S → All2 (fun u p => RelP N.fn w S p u) us ps →
    Does P (N.fn f) us.toArray w (fun v w' => ∃ vs S', v = resVal vs ∧ Grows w w' ∧ (∀ g, S g → S' g) ∧ (∀ g, S' g → g < w'.heap.size) ∧ (∀ g, S' g → S g ∨ w.heap.size ≤ g) ∧
      All2 (fun u p => RelP N.fn w' S' p u) vs rs)

def FreshOk (Γ : Ctx) (N : Names) (P : Program) (f : Nat) (g : List PV → Option (Nat × List PV)) : Prop :=
  ∀ ps r, g ps = some r → ∀ w S us, (∀ g, S g → g < w.heap.size) → GlRel Γ N w S → All2 (fun u p => RelP N.fn w S p u) us ps →
    Does P (N.fn f) us.toArray w (fun v w' => ∃ cells, Grows w w' ∧ RowAt w' v r.1 r.2.length cells ∧ v.oneCell' = true ∧ FlatRel N.fn w' S r.1 r.2 cells ∧ ∀ g, blkOf v = some g → w.heap.size ≤ g)

def UpdOk (Γ : Ctx) (N : Names) (P : Program) (f : Nat) (g : List PV → Nat → List PV → Option (List PV)) : Prop :=
  ∀ ps sz xs ys, g ps sz xs = some ys → ys.length = xs.length → xs.length ≤ lim → ∀ w S u us cells, (∀ g, S g → g < w.heap.size) → GlRel Γ N w S → RowAt w u sz xs.length cells → FlatRel N.fn w S sz xs cells →
    (∀ g, blkOf u = some g → ¬ S g ∧ g < w.heap.size) → All2 (fun u p => RelP N.fn w S p u) us ps →
    Does P (N.fn f) (u :: us).toArray w (fun v w' => v = resVal [] ∧ w'.os = w.os ∧ w'.tape = w.tape ∧ w'.output = w.output ∧ w.heap.size ≤ w'.heap.size ∧ (∀ b, b < w.heap.size → blkOf u ≠ some b → w'.heap[b]? = w.heap[b]?) ∧
      ∃ cells', RowAt w' u sz ys.length cells' ∧ FlatRel N.fn w' S sz ys cells')

structure Known (Γ : Ctx) (N : Names) (P : Program) : Prop where
  mixed : P.follows .mixedOrders = true
  code : ∀ f fn, Γ.fn f = some (.code fn) → ∃ g, P.funcs[N.fn f]? = some g ∧ chkF P N g fn = true
  prim : ∀ f g, Γ.fn f = some (.prim g) → PrimOk Γ N P f g
  fresh : ∀ f g, Γ.fn f = some (.fresh g) → FreshOk Γ N P f g
  upd : ∀ f g, Γ.fn f = some (.upd g) → UpdOk Γ N P f g

section
variable {Γ : Ctx} {N : Names} {P : Program}

theorem look_init : ∀ {args : List AV} {t : Nat}, look (initEnv args) t = (args[t]?).getD .any := by
  have key : ∀ (args : List AV) (k t : Nat), look ((args.zipIdx k).map fun x => (x.2, x.1)) t = if k ≤ t then (args[t - k]?).getD .any else .any := by
    intro args
    induction args with
    | nil => intro k t; simp [look]
    | cons x r ih =>
      intro k t
      simp only [List.zipIdx_cons, List.map_cons, look]
      by_cases h : k = t
      · subst h; simp
      · rw [if_neg h, ih]
        by_cases hk : k ≤ t
        · rw [if_pos (by omega), if_pos hk, show t - k = (t - (k + 1)) + 1 by omega]; simp
        · rw [if_neg (by omega), if_neg hk]
  intro args t
  have := key args 0 t
  simpa [initEnv] using this

def resOf (tmps : Array Value) : Go.ResultVar → Sem Value
  | .tmp t => pure (tmps.getD t undef)
  | .cell x t => do Go.loadVar t (← Go.asAddr (tmps.getD x undef))

theorem loadA_ptr {w : World} {S : Nat → Prop} {μ : Nat → Value} {H : Heap} {x : Value} {x' v : AV} {sz : Nat} {ag : Bool} (_hr : Rel N.fn w S μ H) (hx : RelV N.fn w S μ H x' x) (hv : loadA H sz ag x' = some v) : ∃ ad, x = .pointer (some ad) := by
  unfold loadA at hv
  split at hv
  · cases hx with
    | p _ _ hx => cases hx with
      | ptr cells ad => exact ⟨ad, rfl⟩
  · cases hx with
    | bx _ _ g _ _ _ h => exact ⟨_, h⟩
  · rename_i id n i off
    obtain ⟨r, hb, hv⟩ := Option.bind_eq_some_iff.1 hv
    obtain ⟨y, hy, hv⟩ := Option.bind_eq_some_iff.1 hv
    obtain ⟨f, hb, hn⟩ := rowOf_spec hb
    have hi : i < n := by rw [← hn]; exact (List.getElem?_eq_some_iff.1 hy).1
    cases hx with
    | el _ _ _ _ _ hl h hone =>
    obtain ⟨_, h4⟩ := h f _ _ hb
    obtain ⟨g, cap, h5, rfl⟩ := h4 hn.symm hi
    exact ⟨_, rfl⟩
  · cases hv

theorem results_sound {w : World} {S : Nat → Prop} {μ : Nat → Value} {H : Heap} {a : Act} {env : Env} (hrel : Rel N.fn w S μ H) (he : Env.Rel Γ N w S μ H (look env) a) : ∀ {rs : List Go.ResultVar} {ss : List RV} {vs : List AV}, chkRes P rs ss = true → mapO (RV.get env H) ss = some vs →
    ∃ us, (rs.mapM (resOf a.tmps)).run P w = .ok us w ∧ All2 (fun u x => RelV N.fn w S μ H x u) us vs
  | [], [], vs, _, h => by
    simp only [mapO, Option.some.injEq] at h; subst h
    exact ⟨[], by simp, trivial⟩
  | .tmp t :: rs, .slot t' :: ss, vs, hc, h => by
    simp only [chkRes, Bool.and_eq_true, beq_iff_eq] at hc
    obtain ⟨rfl, hc⟩ := hc
    simp only [mapO, RV.get] at h
    split at h
    · rename_i xs hxs
      simp only [Option.some.injEq] at h; subst h
      obtain ⟨us, h1, h2⟩ := results_sound hrel he hc hxs
      refine ⟨a.tmps.getD t undef :: us, ?_, he.env t, h2⟩
      simp only [List.mapM_cons, resOf, Go.Sem.run_bind, Go.Sem.run_pure, Go.Result.andThen_ok, h1]
    · cases h
  | .cell t T :: rs, .cell t' sz ag :: ss, vs, hc, h => by
    simp only [chkRes, Bool.and_eq_true, beq_iff_eq] at hc
    obtain ⟨⟨⟨rfl, hc1⟩, hc2⟩, hc⟩ := hc
    simp only [mapO, RV.get] at h
    split at h
    · rename_i x hx
      split at h
      · rename_i xs hxs
        simp only [Option.some.injEq] at h; subst h
        obtain ⟨us, h1, h2⟩ := results_sound hrel he hc hxs
        obtain ⟨ad, had⟩ := loadA_ptr hrel (he.env t) hx
        obtain ⟨u, h3, h4⟩ := q_load (P := P) hrel (aggT_spec hc1) (sizeT_spec hc2) (he.env t) hx
        rw [had] at h3
        have h3 : (Go.loadVar T ad).run P w = .ok u w := by simpa [Go.Instr.loadAt, Go.Instr.sureAddr] using h3
        refine ⟨u :: us, ?_, h4, h2⟩
        simp only [List.mapM_cons, resOf, had, Go.asAddr, Go.Sem.run_bind, Go.Sem.run_pure, Go.Result.andThen_ok, h3, h1]
      · cases h
    · cases h
  | .cell _ _ :: _, .slot _ :: _, _, hc, _ => by simp [chkRes] at hc
  | .tmp _ :: _, .cell _ _ _ :: _, _, hc, _ => by simp [chkRes] at hc
  | [], _ :: _, _, hc, _ => by simp [chkRes] at hc
  | .tmp _ :: _, [], _, hc, _ => by simp [chkRes] at hc
  | .cell _ _ :: _, [], _, hc, _ => by simp [chkRes] at hc

theorem run_results {fn : Go.Func} {tmps : Array Value} {w : World} {us : List Value}
    (h : (fn.results.toList.mapM (resOf tmps)).run P w = .ok us w) :
    (Go.results fn tmps).run P w = .ok (resVal us) w := by
  have e : Go.results fn tmps = (do let vs ← fn.results.mapM (resOf tmps); pure (if h : vs.size = 1 then vs[0] else .tuple vs)) := rfl
  rw [e, Array.mapM_eq_mapM_toList]
  simp only [Go.Sem.run_bind, h, Go.Result.andThen_ok, bind_assoc, map_eq_pure_bind, pure_bind, Go.Sem.run_pure]
  match us with
  | [] => simp [resVal]
  | [x] => simp [resVal]
  | x :: y :: r => simp [resVal]

theorem all_ok (K : Known Γ N P) : ∀ n, CallOk Γ N P (callOf Γ (ev Γ n)) := by
  intro n
  induction n using Nat.strongRecOn with
  | _ n ih =>
    intro f args H rs H' hc
    have hcode := (code_both (Γ := Γ) (N := N) (P := P) K.mixed n ih).1
    unfold callOf at hc
    split at hc
    · rename_i g hg
      split at hc
      · rename_i ps hps
        split at hc
        · rename_i qs hqs
          simp only [Option.some.injEq, Prod.mk.injEq] at hc
          obtain ⟨rfl, rfl⟩ := hc
          have h2 := K.prim f g hg ps qs hqs
          refine fun w S μ us hr hgl ha => (h2 w S us hr.lt hgl ?_).mono ?_
          · have := pures_spec hps
            subst this
            have ha := ha.get
            refine .of_get (by simpa using ha.1) fun j x y hx hy => ?_
            exact (ha.2 j x (.p y) hx (by simp [hy])).p_inv
          · rintro e w' ⟨vs, S', rfl, hg, g1, g2, g3, hv⟩
            exact ⟨vs, S', μ, rfl, (Step.grow hr hg g1 g2 g3).run, fun _ => .refl, All2.map_right (hv.imp fun u p h => .p _ _ h)⟩
        · cases hc
      · cases hc
    · rename_i g hg
      split at hc
      rotate_left
      · cases hc
      rename_i ps hps
      split at hc
      rotate_left
      · cases hc
      rename_i r hgr
      split at hc
      rotate_left
      · cases hc
      rename_i h0
      simp only [Option.some.injEq, Prod.mk.injEq] at hc
      obtain ⟨rfl, rfl⟩ := hc
      refine fun w S μ us hr hgl ha => (K.fresh f g hg ps r hgr w S us hr.lt hgl ?_).mono ?_
      · have := pures_spec hps
        subst this
        have ha := ha.get
        refine .of_get (by simpa using ha.1) fun j x y hx hy => ?_
        exact (ha.2 j x (.p y) hx (by simp [hy])).p_inv
      · rintro e w' ⟨cells, hgw, hrow, hone, hfl, hn⟩
        obtain ⟨μ', s1, s2⟩ := step_newrow hr hgw h0.1 h0.2 hrow hfl hn
        exact ⟨[e], S, μ', rfl, s1.run, fun _ => s1.moves, s2, trivial⟩
    · rename_i g hg
      split at hc
      rotate_left
      · cases hc
      rename_i id n args
      split at hc
      rotate_left
      · cases hc
      rename_i sz xs hb
      split at hc
      rotate_left
      · cases hc
      rename_i hxn
      split at hc
      rotate_left
      · cases hc
      rename_i ps hps
      split at hc
      rotate_left
      · cases hc
      rename_i ys hys
      split at hc
      rotate_left
      · cases hc
      rename_i hyl
      simp only [Option.some.injEq, Prod.mk.injEq] at hc
      obtain ⟨rfl, rfl⟩ := hc
      intro w S μ us hr hgl ha
      match us, ha with
      | u :: us, ⟨hu, ha⟩ =>
      have eu : u = μ id := by
        cases hu with
        | own _ _ _ _ h _ => exact (h _ _ _ hb).2 hxn.symm
      subst eu
      obtain ⟨h0, hlim, cells, hrow, hx1, hx2, _⟩ := hr.blk id _ hb
      refine (K.upd f g hg ps sz xs ys hys hyl hlim w S (μ id) us cells hr.lt hgl hrow ⟨hx1, hx2⟩ (fun b hbk => ⟨hr.apart b (alive_iff.2 ⟨id, _, hb, .inr ⟨sz, xs, rfl⟩, hbk⟩), hr.blk_lt hb hbk⟩) ?_).mono ?_
      · have := pures_spec hps
        subst this
        have ha := ha.get
        refine .of_get (by simpa using ha.1) fun j x y hx hy => ?_
        exact (ha.2 j x (.p y) hx (by simp [hy])).p_inv
      · rintro e w' ⟨rfl, q1, q2, q3, q4, q5, cells', q6, q7⟩
        have hm : Moves μ H (upd μ id (μ id)) (H.set id (.row false sz ys)) := moves_set_row hb (by omega) (fun _ => rfl)
        have hs : Step N.fn w S μ H w' S (upd μ id (μ id)) (H.set id (.row false sz ys)) :=
          Step.set hr hb (.inr ⟨sz, xs, rfl⟩) q1 q2 q3 q4 (fun b h1 h2 => q5 b h1 h2) hm ⟨h0, by omega, cells', by rw [upd_same]; exact q6, q7.1, q7.2, by simp⟩ (fun b hbk => .inl hbk)
        exact ⟨[], S, _, rfl, hs.run, fun _ => hs.moves, trivial⟩
    · rename_i fn hf
      obtain ⟨g, hg, hchk⟩ := K.code f fn hf
      simp only [chkF, Bool.and_eq_true, decide_eq_true_eq] at hchk
      obtain ⟨⟨⟨c1, c2⟩, c3⟩, c4⟩ := hchk
      split at c4
      rotate_left
      · cases c4
      rename_i body hbody
      split at hc
      rotate_left
      · cases hc
      rename_i hlen
      have henter : Enters P (N.fn f) := fun us w => by
        have hnm : (g.name == "runtime.NumGoroutine") = false := by simpa using c3
        simp only [beq_eq_false_iff_ne, ne_eq] at hnm
        simp [Go.callFunc, hg, hnm, hbody]
      intro w S μ us hr hgl ha
      refine .inl ⟨henter _ _, Go.calls_of_wp hg hbody ?_⟩
      have hul : us.length = args.length := ha.get.1
      have he0 : Env.Rel Γ N w S μ H (look (initEnv args)) { tmps := us.toArray ++ Array.replicate (g.ntmps - us.toArray.size) undef, defers := [] } := by
        refine ⟨fun t => ?_, hgl⟩
        rw [look_init]
        rcases Nat.lt_or_ge t args.length with h | h
        · rw [List.getElem?_eq_getElem h, Option.getD_some]
          have := ha.get.2 t (us[t]'(by omega)) args[t] (List.getElem?_eq_getElem _) (List.getElem?_eq_getElem _)
          have e : (us.toArray ++ Array.replicate (g.ntmps - us.toArray.size) undef).getD t undef = us[t]'(by omega) := by
            rw [Array.getD_eq_getD_getElem?, Array.getElem?_append_left (by simp; omega)]
            simp [List.getElem?_eq_getElem (show t < us.length by omega)]
          rw [e]; exact this
        · rw [List.getElem?_eq_none h, Option.getD_none]; exact .any _
      split at hc
      · cases hc
      · rename_i ex env' H1 hno hev
        split at hc
        · rename_i vs hvs
          simp only [Option.some.injEq, Prod.mk.injEq] at hc
          obtain ⟨rfl, rfl⟩ := hc
          refine hcode g.ntmps body fn.body (initEnv args) H ex env' H1 H.length c4 hev w S μ _ _ hr he0 (by simp; omega) fun a' w' S' μ' hrun hmv he' hs hd => ?_
          have hmv : stillF Γ H.length f = true → Moves μ H μ' H1 := fun h => (hmv (by simpa [stillF, hf] using h) (Nat.le_refl _)).toMoves
          obtain ⟨us', h1, h2⟩ := results_sound hrun.rel he' c2 hvs
          have h3 := run_results h1
          cases ex with
          | nrm => exact ⟨hd, _, h3, _, rfl, us', S', μ', rfl, hrun, hmv, h2⟩
          | ret => exact ⟨hd, _, h3, _, rfl, us', S', μ', rfl, hrun, hmv, h2⟩
          | ex i => exact (hno i rfl).elim
        · cases hc
      · cases hc
    · cases hc

theorem run_sound (K : Known Γ N P) {n f : Nat} {ps rs : List PV} {r : List AV × Heap} {us : List Value} {w : World} {T : Nat → Prop} (hT : ∀ g, T g → g < w.heap.size) (hgl : GlRel Γ N w T)
    (ha : All2 (fun u p => RelP N.fn w T p u) us ps) (hc : callOf Γ (ev Γ n) f (ps.map .p) [] = some r) (hrs : mapO (reify r.2 4) r.1 = some rs) :
    Does P (N.fn f) us.toArray w (fun v w' => ∃ vs, v = resVal vs ∧ Grows w w' ∧
      All2 (fun u p => RelP N.fn w' (fun g => T g ∨ (w.heap.size ≤ g ∧ g < w'.heap.size)) p u) vs rs) :=
  pure_call (all_ok K n) hT hgl ha hc hrs
end
end Ab
namespace Ab
open Go (IntKind BinOp UnOp World Value Addr Obj undef maxLen Program TypeId Oper Op Operand Act Sem Next Result execOp Builtin Calls Ending Exit)

def RowFor (P : Program) (f : Nat) (e : Array Value → Sem Value) : Prop :=
  ∃ fn, P.funcs[f]? = some fn ∧ (fn.name == "runtime.NumGoroutine") = false ∧ fn.body.isNone = true ∧ Go.Extern.findNext fn = none ∧ Go.Extern.find fn = some e

theorem RowFor.does {P : Program} {f : Nat} {e : Array Value → Sem Value} (h : RowFor P f e) {us : Array Value} {w w' : World} {v : Value} {R : Value → World → Prop} (hrun : (e us).run P w = .ok v w') (hR : R v w') : Does P f us w R := by
  obtain ⟨fn, h1, h2, h3, h4, h5⟩ := h
  refine .inr ⟨v, w', ?_, hR⟩
  simp only [beq_eq_false_iff_ne, ne_eq] at h2
  have h3 := Option.isNone_iff_eq_none.1 h3
  simp [Go.callFunc, h1, h2, h3, h4, h5, hrun, Go.mark, Sem.run]

theorem ixB_eq (s : List UInt8) (c : UInt8) : Go.Lib.indexByte s c = ixB s c := by
  induction s with
  | nil => rfl
  | cons b l ih => simp only [Go.Lib.indexByte, ixB, ih]

section
variable {Γ : Ctx} {N : Names} {P : Program} {f : Nat}
theorem prim_indexByte (h : RowFor P (N.fn f) Go.Extern.BytealgIndexByte.indexByte) : PrimOk Γ N P f indexByteG := by
  intro ps rs hg w S us hS hgl ha
  unfold indexByteG at hg
  split at hg
  rotate_left
  · cases hg
  rename_i s c
  simp only [Option.some.injEq] at hg
  subst hg
  match us, ha with
  | [u1, u2], ⟨h1, h2, _⟩ =>
    rw [h1.str_inv, h2.int_inv]
    rw [← ixB_eq]
    exact h.does (w' := w) (Go.Lib.run_indexByteString ⟨s.toArray⟩ c w) ⟨[.int .i64 (Go.Lib.indexByte s c.toNat.toUInt8)], S, rfl, .refl w, fun _ h => h, hS, fun _ h => .inl h, .int _ _, trivial⟩

theorem prim_count (h : RowFor P (N.fn f) Go.Extern.BytealgCount.count) : PrimOk Γ N P f countG := by
  intro ps rs hg w S us hS hgl ha
  unfold countG at hg
  split at hg
  rotate_left
  · cases hg
  rename_i s c
  simp only [Option.some.injEq] at hg
  subst hg
  match us, ha with
  | [u1, u2], ⟨h1, h2, _⟩ =>
    rw [h1.str_inv, h2.int_inv]
    exact h.does (w' := w) (Go.Lib.run_countString ⟨s.toArray⟩ c w) ⟨[.int .i64 (s.count c.toNat.toUInt8 : Nat)], S, rfl, .refl w, fun _ h => h, hS, fun _ h => .inl h, .int _ _, trivial⟩
end
end Ab
namespace Ab
open Go (IntKind BinOp UnOp World Value Addr Obj undef maxLen Program TypeId Oper Op Operand Act Sem Next Result execOp Builtin Calls Ending Exit DataW Lit MemPlace)

def tiles (P : Program) : List Go.Field → Nat → Option Nat
  | [], k => some k
  | f :: fs, k => if f.offset = k then tiles P fs (k + P.cellsOf f.type) else none

def plainT (P : Program) : Nat → TypeId → Bool
  | 0, _ => false
  | n + 1, t => match P.underlying t with
    | some .bool | some (.int _) | some .string => true
    | some (.slice e) => plainT P n e && decide (0 < P.cellsOf e) && (aggB P e).isSome
    | some (.struct fs) => (match tiles P fs.toList 0 with | some k => k == P.cellsOf t | none => false) && fs.toList.all fun f => plainT P n f.type
    | _ => false

def okFs (R : TypeId → List PV → Prop) : List TypeId → List PV → Prop
  | [], pcs => pcs = []
  | t :: ts, pcs => ∃ a b, pcs = a ++ b ∧ R t a ∧ okFs R ts b
def okT (P : Program) : Nat → TypeId → List PV → Prop
  | 0, _, _ => False
  | n + 1, t, pcs => match P.underlying t with
    | some .bool => ∃ b, pcs = [.bool b]
    | some (.int k) => ∃ m, pcs = [.int k m] ∧ (Lit.int k m).wf = true
    | some .string => ∃ s, pcs = [.str s] ∧ s.length ≤ maxLen
    | some (.slice e) => ∃ k xs, pcs = [.sl k (P.cellsOf e) xs] ∧ xs.length ≤ maxLen ∧ ((k = .nil ∧ xs = []) ∨ k = .mem) ∧ ∀ x ∈ xs, x.one = !((aggB P e).getD true) ∧ okT P n e x.cells
    | some (.struct fs) => okFs (okT P n) (fs.toList.map (·.type)) pcs
    | _ => False

section
variable {H : Type} {enc : TypeId × Value → H} {P : Program} {N : Names} {w : World} {sp : Nat → Bool} {held : Bool} {S : Nat → Prop}

structure Trees (ν : Nat → Nat) (w : World) (S : Nat → Prop) (pcs : List PV) (cs : List Value) : Prop where
  len : pcs.length = cs.length
  one : ∀ c ∈ pcs, c.one = true
  rel : ∀ (j : Nat) c, pcs[j]? = some c → RelP ν w S c (cs.getD j undef)

theorem Trees.single {c : PV} {v : Value} (h : RelP N.fn w S c v) (h1 : c.one = true) : Trees N.fn w S [c] [v] :=
  ⟨rfl, by simpa using h1, fun j c' hc => by
    cases j with
    | zero => simp only [List.getElem?_cons_zero, Option.some.injEq] at hc; subst hc; simpa using h
    | succ j => simp at hc⟩
theorem Trees.append {a b : List PV} {cs ds : List Value} (ha : Trees N.fn w S a cs) (hb : Trees N.fn w S b ds) : Trees N.fn w S (a ++ b) (cs ++ ds) := by
  refine ⟨by simp [ha.len, hb.len], fun c hc => ?_, fun j c hc => ?_⟩
  · rcases List.mem_append.1 hc with h | h
    · exact ha.one c h
    · exact hb.one c h
  · by_cases hj : j < a.length
    · rw [List.getElem?_append_left hj] at hc
      have := ha.rel j c hc
      rwa [List.getD_eq_getElem?_getD, List.getElem?_append_left (by rw [← ha.len]; exact hj), ← List.getD_eq_getElem?_getD]
    · rw [List.getElem?_append_right (by omega)] at hc
      have := hb.rel _ c hc
      rwa [List.getD_eq_getElem?_getD, List.getElem?_append_right (by rw [← ha.len]; omega), ← ha.len, ← List.getD_eq_getElem?_getD]

theorem cell?_lt {a : Addr} {v : Value} (h : w.cell? a = some v) : a.block < w.heap.size := by
  have hs := Go.World.cell?_spot h
  unfold World.cell? at h
  cases hg : w.heap[a.block]? with
  | none => simp [hg] at h
  | some o => exact (Array.getElem?_eq_some_iff.1 hg).1

theorem tiles_trees (R : TypeId → List PV → Prop) (cs : List Value) (n F : Nat) (ih : ∀ t (cs : List Value) d ps, plainT P n t = true → DataW.trod enc P w 0 sp held F t cs = some (d, ps) → ∃ pcs, R t pcs ∧ Trees N.fn w S pcs cs) :
    ∀ (fs : List Go.Field) (k m : Nat) (xs : List (DataW H × List MemPlace)), tiles P fs k = some m → (fs.all fun f => plainT P n f.type) = true → m = cs.length →
      fs.mapM (fun f => DataW.trod enc P w 0 sp held F f.type ((cs.drop f.offset).take (P.cellsOf f.type))) = some xs → k ≤ m ∧ ∃ pcs, okFs R (fs.map (·.type)) pcs ∧ Trees N.fn w S pcs (cs.drop k)
  | [], k, m, xs, ht, _, hm, _ => by
    simp only [tiles, Option.some.injEq] at ht
    subst ht
    refine ⟨Nat.le_refl _, [], rfl, ?_⟩
    rw [List.drop_of_length_le (by omega)]
    exact ⟨rfl, by simp, by simp⟩
  | f :: fs, k, m, xs, ht, hp, hm, hx => by
    simp only [tiles] at ht
    split at ht
    rotate_left
    · cases ht
    rename_i hk
    simp only [List.all_cons, Bool.and_eq_true] at hp
    simp only [List.mapM_cons, Option.pure_def, Option.bind_eq_bind, Option.bind_eq_some_iff, Option.some.injEq] at hx
    obtain ⟨⟨d, ps⟩, hd, ys, hys, rfl⟩ := hx
    obtain ⟨hle, pcs, h1, h2⟩ := tiles_trees R cs n F ih fs (k + P.cellsOf f.type) m ys ht hp.2 hm hys
    obtain ⟨a, h3, h4⟩ := ih f.type _ d ps hp.1 hd
    refine ⟨by omega, a ++ pcs, ⟨a, pcs, rfl, h3, h1⟩, ?_⟩
    have := h4.append h2
    rw [hk] at this
    rw [← List.drop_drop, List.take_append_drop] at this
    exact this

theorem trod_trees (hS : ∀ g, g < w.heap.size → S g) : ∀ (F n : Nat) (t : TypeId) (cs : List Value) d ps, plainT P n t = true → DataW.trod enc P w 0 sp held F t cs = some (d, ps) → ∃ pcs, okT P n t pcs ∧ Trees N.fn w S pcs cs
  | 0, _, _, _, _, _, _, h => by simp [DataW.trod] at h
  | F + 1, 0, _, _, _, _, hp, _ => by cases hp
  | F + 1, n + 1, t, cs, d, ps, hp, h => by
    simp only [plainT] at hp
    split at hp
    · rename_i hu
      obtain ⟨b, rfl, _⟩ := DataW.trod_bool hu h
      exact ⟨_, by rw [okT, hu]; exact ⟨b, rfl⟩, .single (.bool b) rfl⟩
    · rename_i k hu
      obtain ⟨m, rfl, _, hw⟩ := DataW.trod_int hu h
      exact ⟨_, by rw [okT, hu]; exact ⟨m, rfl, hw⟩, .single (.int k m) rfl⟩
    · rename_i hu
      obtain ⟨s, rfl, _, hs⟩ := DataW.trod_string hu h
      refine ⟨_, by rw [okT, hu]; exact ⟨s.data.toList, rfl, by rw [Array.length_toList]; exact hs⟩, .single ?_ rfl⟩
      have := RelP.str (ν := N.fn) (w := w) (S := S) s.data.toList
      simpa using this
    · rename_i e hu
      simp only [Bool.and_eq_true, decide_eq_true_eq] at hp
      obtain ⟨⟨hp, h0⟩, hag⟩ := hp
      obtain ⟨ag, hag⟩ := Option.isSome_iff_exists.1 hag
      rcases DataW.trod_slice hu h with ⟨rfl, _⟩ | ⟨a, len, cap, elems, rest, F', hF, rfl, _, _, hlc, hcm, hel, hget, _⟩
      · refine ⟨[.sl .nil (P.cellsOf e) []], by rw [okT, hu]; exact ⟨.nil, [], rfl, by simp, .inl ⟨rfl, rfl⟩, by simp⟩, .single ?_ rfl⟩
        exact .sl .nil _ [] none 0 (fun _ _ => undef) (Nat.le_refl _) (Nat.zero_le _) (by simp) (by simp) (by simp) (by simp) (by simp) (by simp)
      · obtain rfl : F = F' := by omega
        have each : ∀ i, i < len → ∃ (x : PV) (us : List Value), us.length = P.cellsOf e ∧ (∀ j, j < P.cellsOf e → w.cell? ((a.add (i * P.cellsOf e)).add j) = us[j]?) ∧ x.one = !ag ∧ okT P n e x.cells ∧ Trees N.fn w S x.cells us := by
          intro i hi
          have := hget i hi
          rw [List.getElem?_eq_getElem (by omega)] at this
          obtain ⟨us, hus, hd⟩ := Option.bind_eq_some_iff.1 this
          obtain ⟨_, hul, huc⟩ := Go.World.cells?_some hus
          obtain ⟨pcs, hok, htr⟩ := trod_trees hS F n e us _ _ hp hd
          cases ag with
          | true => exact ⟨.agg pcs, us, hul, huc, rfl, hok, htr⟩
          | false =>
            obtain ⟨c, rfl⟩ : ∃ c, pcs = [c] := by
              cases n with
              | zero => exact hok.elim
              | succ n =>
                rw [okT] at hok
                unfold aggB at hag
                split at hok
                · obtain ⟨_, h⟩ := hok; exact ⟨_, h⟩
                · obtain ⟨_, h, _⟩ := hok; exact ⟨_, h⟩
                · obtain ⟨_, h, _⟩ := hok; exact ⟨_, h⟩
                · obtain ⟨_, _, h, _⟩ := hok; exact ⟨_, h⟩
                · rename_i hs; rw [hs] at hag; simp at hag
                · exact hok.elim
            have hone := htr.one c (by simp)
            exact ⟨c, us, hul, huc, hone, by rw [PV.cells_one hone]; exact hok, by rw [PV.cells_one hone]; exact htr⟩
        have : ∃ (xs : List PV) (us : Nat → List Value), xs.length = len ∧ ∀ i x, xs[i]? = some x → (us i).length = P.cellsOf e ∧ (∀ j, j < P.cellsOf e → w.cell? ((a.add (i * P.cellsOf e)).add j) = (us i)[j]?) ∧ x.one = !ag ∧ okT P n e x.cells ∧ Trees N.fn w S x.cells (us i) := by
          refine ⟨(List.range len).map fun i => if hi : i < len then (each i hi).choose else .nilp, fun i => if hi : i < len then (each i hi).choose_spec.choose else [], by simp, fun i x hx => ?_⟩
          simp only [List.getElem?_map, Option.map_eq_some_iff] at hx
          obtain ⟨i', hi', rfl⟩ := hx
          obtain ⟨hlt, he⟩ := List.getElem?_eq_some_iff.1 hi'
          simp only [List.length_range] at hlt
          simp only [List.getElem_range] at he
          subst he
          simp only [hlt, dif_pos]
          exact (each i hlt).choose_spec.choose_spec
        obtain ⟨xs, us, hxl, hxs⟩ := this
        refine ⟨[.sl .mem (P.cellsOf e) xs], by rw [okT, hu]; refine ⟨.mem, xs, rfl, by omega, .inr rfl, fun x hx => ?_⟩; obtain ⟨i, hi⟩ := List.getElem?_of_mem hx; obtain ⟨_, _, h3, h4, _⟩ := hxs i x hi; rw [hag]; exact ⟨h3, h4⟩, .single ?_ rfl⟩
        rw [← hxl]
        refine .sl .mem _ xs (some a) cap (fun i j => (us i).getD j undef) (by omega) hcm (fun x hx => ?_) (by simp) (by simp) (fun hne => ⟨a, rfl, hS _ ?_⟩) (fun ad had i x j c hx hc => ?_) (fun i x j c hx hc => ?_)
        · obtain ⟨i, hi⟩ := List.getElem?_of_mem hx
          obtain ⟨h1, _, _, _, h5⟩ := hxs i x hi
          exact ⟨by rw [h5.len, h1], h5.one⟩
        · cases xs with
          | nil => exact absurd rfl hne
          | cons x xs =>
            obtain ⟨h1, h2, _, _, _⟩ := hxs 0 x rfl
            have := h2 0 h0
            rw [List.getElem?_eq_getElem (by omega)] at this
            have := cell?_lt this
            rwa [block_add, block_add] at this
        · cases had
          obtain ⟨h1, h2, _, _, h5⟩ := hxs i x hx
          have hj : j < P.cellsOf e := by rw [← h1, ← h5.len]; exact (List.getElem?_eq_some_iff.1 hc).1
          have := h2 j hj
          rw [add_add] at this
          rw [this, List.getD_eq_getElem?_getD, List.getElem?_eq_getElem (by omega), Option.getD_some]
        · obtain ⟨_, _, _, _, h5⟩ := hxs i x hx
          exact h5.rel j c hc
    · rename_i fs hu
      simp only [Bool.and_eq_true] at hp
      obtain ⟨hp1, hp2⟩ := hp
      split at hp1
      · rename_i k hk
        simp only [beq_iff_eq] at hp1
        obtain ⟨xs, F', hF, _, hl, hxl, hget⟩ := DataW.trod_struct hu h
        obtain rfl : F = F' := by omega
        have hm : fs.toList.mapM (fun f => DataW.trod enc P w 0 sp held F f.type ((cs.drop f.offset).take (P.cellsOf f.type))) = some xs := by
          have key : ∀ (l : List Go.Field) (ys : List (DataW H × List MemPlace)), ys.length = l.length → (∀ (i : Nat) f, l[i]? = some f → DataW.trod enc P w 0 sp held F f.type ((cs.drop f.offset).take (P.cellsOf f.type)) = ys[i]?) →
              l.mapM (fun f => DataW.trod enc P w 0 sp held F f.type ((cs.drop f.offset).take (P.cellsOf f.type))) = some ys := by
            intro l
            induction l with
            | nil => intro ys h1 _; cases ys with | nil => rfl | cons _ _ => simp at h1
            | cons f l ih =>
              intro ys h1 h2
              cases ys with
              | nil => simp at h1
              | cons y ys =>
                have e0 := h2 0 f rfl
                simp only [List.getElem?_cons_zero] at e0
                have e1 := ih ys (by simpa using h1) fun i g hg => by simpa using h2 (i + 1) g (by simpa using hg)
                simp [List.mapM_cons, e0, e1]
          exact key fs.toList xs (by simpa using hxl) fun i f hf => hget i f (by simpa using hf)
        obtain ⟨_, pcs, h1, h2⟩ := tiles_trees (N := N) (S := S) (okT P n) cs n F (fun t cs d ps hp hd => trod_trees hS F n t cs d ps hp hd) fs.toList 0 k xs hk hp2 (by omega) hm
        refine ⟨pcs, by rw [okT, hu]; exact h1, by simpa using h2⟩
      · cases hp1
    · cases hp
end
end Ab
namespace Ab
open Go (IntKind BinOp UnOp World Value Addr Obj undef maxLen Program TypeId Oper Op Operand Act Sem Next Result execOp Builtin Calls Ending Exit DataW Lit MemPlace)

def treeT (P : Program) (n : Nat) (p : PV) (t : TypeId) : Prop := p.one = !((aggB P t).getD true) ∧ okT P n t p.cells

section
variable {H : Type} {enc : TypeId × Value → H} {P : Program} {N : Names} {Γ : Ctx} {W : World}

theorem cellOk_one {r : Go.Reach} {b : Nat} {t : TypeId} {v : Value} (h : Go.Cell.okWide P W r b t v) : v.oneCell' = true := by
  unfold Go.Cell.okWide at h
  split at h <;> first | rfl | (unfold Go.Cell.ok at h; split at h <;> first | rfl | exact h.elim)

theorem cells_single {v : Value} (h : v.oneCell' = true) : v.cells.toList = [v] := by cases v <;> first | rfl | cases h

theorem arg_tree {S : Nat → Prop} (hS : ∀ g, g < W.heap.size → S g) {n : Nat} {t : TypeId} {v : Value} {d : DataW H} {ps : List MemPlace} {b0 : Nat} {r : Go.Reach} (hp : plainT P n t = true) (hv : Value.okWide P W r b0 t v)
    (hd : DataW.Trod enc P W 0 (fun _ => true) true t v d ps) : ∃ p, treeT P n p t ∧ RelP N.fn W S p v := by
  obtain ⟨F, hd⟩ := hd
  obtain ⟨pcs, hok, htr⟩ := trod_trees (N := N) hS F n t _ _ _ hp hd
  cases n with
  | zero => cases hp
  | succ n =>
    have leaf : ∀ c, pcs = [c] → aggB P t = some false → v.oneCell' = true → ∃ p, treeT P (n + 1) p t ∧ RelP N.fn W S p v := by
      rintro c rfl ha h1
      have hone := htr.one c (by simp)
      refine ⟨c, ⟨by rw [hone, ha]; rfl, by rw [PV.cells_one hone]; exact hok⟩, ?_⟩
      have := htr.rel 0 c rfl
      rw [cells_single h1] at this
      simpa using this
    simp only [plainT] at hp
    unfold Value.okWide at hv
    have hok' := hok
    rw [okT] at hok'
    split at hp
    · rename_i hu
      rw [hu] at hv hok'
      obtain ⟨b, h⟩ := hok'
      exact leaf _ h (by simp [aggB, hu]) (cellOk_one hv)
    · rename_i k hu
      rw [hu] at hv hok'
      obtain ⟨b, h, _⟩ := hok'
      exact leaf _ h (by simp [aggB, hu]) (cellOk_one hv)
    · rename_i hu
      rw [hu] at hv hok'
      obtain ⟨b, h, _⟩ := hok'
      exact leaf _ h (by simp [aggB, hu]) (cellOk_one hv)
    · rename_i e hu
      rw [hu] at hv hok'
      obtain ⟨_, _, h, _⟩ := hok'
      exact leaf _ h (by simp [aggB, hu]) (cellOk_one hv)
    · rename_i fs hu
      rw [hu] at hv
      obtain ⟨cs, rfl, _, _⟩ := hv
      refine ⟨.agg pcs, ⟨by simp [aggB, hu, PV.one], hok⟩, .agg pcs cs ?_ htr.one (fun j c hc => ?_)⟩
      · have := htr.len
        simpa [Value.cells] using this.symm
      · have := htr.rel j c hc
        rwa [show (Value.agg cs).cells.toList = cs.toList from rfl, getD_toList] at this
    · cases hp

theorem args_trees {S : Nat → Prop} (hS : ∀ g, g < W.heap.size → S g) {n : Nat} {b0 : Nat} {r : Go.Reach} : ∀ {ts : List TypeId} {vs : List Value} {ds : List (DataW H)} {ps : List MemPlace}, ts.all (plainT P n) = true → (∀ (j : Nat) t v, ts[j]? = some t → vs[j]? = some v → Value.okWide P W r b0 t v) →
    DataW.TrodAll enc P W 0 (fun _ => true) true ts vs ds ps → ∃ trees, All2 (treeT P n) trees ts ∧ All2 (fun u p => RelP N.fn W S p u) vs trees ∧ ds.length = ts.length
  | [], [], [], _, _, _, _ => ⟨[], trivial, trivial, rfl⟩
  | t :: ts, v :: vs, d :: ds, ps, hp, hv, h => by
    obtain ⟨p, q, h1, h2, _⟩ := h
    simp only [List.all_cons, Bool.and_eq_true] at hp
    obtain ⟨x, hx1, hx2⟩ := arg_tree (N := N) hS hp.1 (hv 0 t v rfl rfl) h1
    obtain ⟨xs, hxs1, hxs2, hl⟩ := args_trees hS hp.2 (fun j t v ht hv' => hv (j + 1) t v (by simpa using ht) (by simpa using hv')) h2
    exact ⟨x :: xs, ⟨hx1, hxs1⟩, ⟨hx2, hxs2⟩, by simp [hl]⟩
  | [], [], _ :: _, _, _, _, h => by cases h
  | [], _ :: _, _, _, _, _, h => by simp [DataW.TrodAll] at h
  | _ :: _, [], _, _, _, _, h => by simp [DataW.TrodAll] at h
  | _ :: _, _ :: _, [], _, _, _, h => by simp [DataW.TrodAll] at h

theorem args_stay (hl : Go.laidOutB P = true) {W' : World} (hg : Grows W W') {sp : Nat → Bool} : ∀ {ts : List TypeId} {vs : List Value} {ds : List (DataW H)} {ps : List MemPlace}, ts.all (fun t => P.readableRec t && decide (t < P.types.size)) = true →
    DataW.TrodAll enc P W 0 (fun _ => true) true ts vs ds ps → (∀ x ∈ ps, x.block < W.heap.size) → (∀ x ∈ ps, sp x.block = true) → DataW.TrodAll enc P W' 0 sp true ts vs ds ps
  | [], [], [], _, _, h, _, _ => h
  | t :: ts, v :: vs, d :: ds, ps, hp, h, hlt, hsp => by
    obtain ⟨p, q, h1, h2, rfl⟩ := h
    simp only [List.all_cons, Bool.and_eq_true, decide_eq_true_eq] at hp
    have hb : Go.RowKit.Below W.heap.size W W' := ⟨hg.os, hg.tape, hg.output, hg.size, hg.keep⟩
    exact ⟨p, q, Go.WideElems.Trod_stays hl hp.1.1 hp.1.2 h1 (fun x hx => hb.same (hlt x (by simp [hx]))) (fun x hx => hsp x (by simp [hx])),
      args_stay hl hg hp.2 h2 (fun x hx => hlt x (by simp [hx])) (fun x hx => hsp x (by simp [hx])), rfl⟩
  | [], [], _ :: _, _, _, h, _, _ => by cases h
  | [], _ :: _, _, _, _, h, _, _ => by simp [DataW.TrodAll] at h
  | _ :: _, [], _, _, _, h, _, _ => by simp [DataW.TrodAll] at h
  | _ :: _, _ :: _, [], _, _, h, _, _ => by simp [DataW.TrodAll] at h
end
end Ab
namespace Ab
open Go (IntKind BinOp UnOp World Value Addr Obj undef maxLen Program TypeId Oper Op Operand Act Sem Next Result execOp Builtin Calls Ending Exit DataW Lit MemPlace ChangeSpec)

theorem post_same {H : Type} {enc : TypeId × Value → H} {P : Program} {f : Go.Func} {s : ChangeSpec} {apart fresh handsOn again : Bool} {W W' : World} {args : Array Value} {v : Value} {ds gs : List (DataW H)} {before pa pv : List MemPlace}
    (hW : DataW.Whole enc P f.params.toList s.vars apart W args.toList ds gs before)
    (hres : ∀ (b : Nat) (sp : Nat → Bool) (hd : Bool), DataW.TrodAll enc P W' b sp hd f.resultTypes.toList (v.resultList f.resultTypes.size) (s.fn H (ds ++ gs)).results [])
    (hargs : ∀ sp : Nat → Bool, (∀ p ∈ before, sp p.block = true) → DataW.TrodAll enc P W' 0 sp true f.params.toList args.toList (s.fn H (ds ++ gs)).args pa)
    (hvars : ∀ sp : Nat → Bool, (∀ p ∈ before, sp p.block = true) → DataW.TrodVars enc P W' sp s.vars (s.fn H (ds ++ gs)).vars pv)
    (hps : before = pa ++ pv) (hk : W.keptBut W' (· ∈ before)) (hfz : ∀ p ∈ before, ∀ b off, p = .cell b off → W'.frozen? ⟨b, off, none⟩ = W.frozen? ⟨b, off, none⟩)
    (hok : ∀ (j : Nat) (t : TypeId) (r : Value), f.resultTypes[j]? = some t → (v.resultList f.resultTypes.size)[j]? = some r → Value.okWide P W' .any 0 t r) :
    s.post enc P f apart fresh handsOn again W args v W' := by
  have hold : ∀ p ∈ before, (fun b => decide (b < W.heap.size)) p.block = true := fun p hp => by simpa using hW.lt p hp
  refine ⟨ds, gs, before, [], pa, pv, hW, hres _ _ _, hargs _ hold, hvars _ hold, World.keptBut_mono (fun p hp => ⟨hp, ?_⟩) hk, fun _ => ?_⟩
  · rw [hps, List.mem_append] at hp
    exact Or.inr hp
  · obtain ⟨_, _, _, _, _, hz, hn⟩ := hW
    refine ⟨hok, _, _, ([] ++ pa) ++ pv, ⟨[] ++ pa, pv, Go.ChangeShapes.trodAll_append (hargs _ (fun _ _ => rfl)) (hres _ _ _), hvars _ (fun _ _ => rfl), rfl, ?_, ?_⟩, ?_⟩
    · intro b off hp
      have hp' : MemPlace.cell b off ∈ before := by rw [hps]; simpa using hp
      rw [hfz _ hp' b off rfl]
      exact hz b off hp'
    · intro ha
      have := hn ha
      rw [hps] at this
      simpa using this
    · intro p hp _
      rw [hps]
      simpa using hp

section
variable {H : Type} {enc : TypeId × Value → H} {P : Program} {N : Names} {Γ : Ctx} {W : World}

theorem enters_of {f : Nat} {g : Go.Func} (hf : P.funcs[f]? = some g) (hn : (g.name == "runtime.NumGoroutine") = false) (hb : g.body.isNone = false) : Enters P f := fun us w => by
  simp only [beq_eq_false_iff_ne, ne_eq] at hn
  simp only [Go.callFunc, Go.Sem.run_bind, Go.run_program, Go.Result.andThen_ok, hf, hb, Bool.false_eq_true, if_false, beq_iff_eq, hn, Go.Sem.run_pure]

theorem law_calls (K : Known Γ N P) {f lf n : Nat} {fn : Go.Func} {tb : TypeId} {s : ChangeSpec} {apart fresh handsOn again : Bool} {args : Array Value} {ds gs : List (DataW H)} {before : List MemPlace} {b0 : Nat} {r : Go.Reach}
    (hN : N.fn lf = f) (hE : Enters P f) (hgl : GlRel Γ N W fun g => g < W.heap.size) (hp : fn.params.toList.all (plainT P n) = true) (hrd : fn.params.toList.all (fun t => P.readableRec t && decide (t < P.types.size)) = true)
    (hl : Go.laidOutB P = true) (hres : fn.resultTypes = #[tb]) (htb : P.underlying tb = some .bool) (hvars : s.vars = [])
    (hspec : ∀ ds : List (DataW H), ds.length = fn.params.toList.length → s.fn H ds = { results := [.lit (.bool true)], args := ds })
    (law : ∀ trees, All2 (treeT P n) trees fn.params.toList → ∃ m h, callOf Γ (ev Γ m) lf (trees.map .p) [] = some ([.p (.bool true)], h))
    (hval : ∀ (j : Nat) t v, fn.params[j]? = some t → args[j]? = some v → Value.okWide P W r b0 t v) (hW : DataW.Whole enc P fn.params.toList s.vars apart W args.toList ds gs before) :
    Calls P f args W fun e W' => ∃ v, e = .returned v ∧ s.post enc P fn apart fresh handsOn again W args v W' := by
  have hlt := hW.lt
  have hW' := hW
  obtain ⟨p, q, hA, hV, rfl, hz, _⟩ := hW'
  obtain ⟨trees, ht1, ht2, hdl⟩ := args_trees (N := N) (S := fun g => g < W.heap.size) (fun _ h => h) hp (fun j t v ht hv => hval j t v (by simpa using ht) (by simpa using hv)) hA
  obtain ⟨m, h, hcall⟩ := law trees ht1
  have hrun := run_sound K (T := fun g => g < W.heap.size) (fun _ h => h) hgl ht2 hcall (rs := [.bool true]) rfl
  rw [hN] at hrun
  have hvg : gs = [] ∧ q = [] := by
    rw [hvars] at hV
    cases gs <;> simp_all [DataW.TrodVars]
  obtain ⟨rfl, rfl⟩ := hvg
  have hcalls : Calls P f args W fun e W' => ∃ v, e = .returned v ∧ (∃ vs, v = resVal vs ∧ Grows W W' ∧ All2 (fun u p => RelP N.fn W' (fun g => g < W.heap.size ∨ (W.heap.size ≤ g ∧ g < W'.heap.size)) p u) vs [.bool true]) := by
    rcases hrun with ⟨_, h⟩ | ⟨v, w', h, _⟩
    · simpa using h
    · rw [hE] at h; cases h
  refine hcalls.mono ?_
  rintro e W' ⟨v, rfl, vs, rfl, hg, hv⟩
  match vs, hv with
  | [u], ⟨hu, _⟩ =>
    cases hu
    have hb : Go.RowKit.Below W.heap.size W W' := ⟨hg.os, hg.tape, hg.output, hg.size, hg.keep⟩
    refine ⟨_, rfl, post_same (pa := p) (pv := []) hW (fun b sp hd => ?_) (fun sp hsp => ?_) (fun _ _ => ?_) rfl (hb.frame _) (fun x hx b off e => ?_) (Go.RowKit.ok_one hres rfl (Go.RowKit.okWide_bool_mk htb _))⟩
    · rw [List.append_nil, hspec ds hdl, hres]
      exact ⟨[], [], Go.RowKit.shut_bool htb _, rfl, rfl⟩
    · rw [List.append_nil, hspec ds hdl]
      exact args_stay hl hg hrd hA (fun x hx => hlt x (by simp [hx])) (fun x hx => hsp x (by simp [hx]))
    · rw [List.append_nil, hspec ds hdl, hvars]; rfl
    · subst e; exact hb.frozen (hlt _ hx)
end
end Ab
namespace Ab
open Go (IntKind BinOp UnOp World Value Addr Obj undef maxLen Program TypeId)

theorem all2_2 {α β : Type} {R : α → β → Prop} {l : List α} {a b : β} (h : All2 R l [a, b]) : ∃ p q, l = [p, q] ∧ R p a ∧ R q b := by
  match l, h with
  | [p, q], ⟨h1, h2, _⟩ => exact ⟨p, q, rfl, h1, h2⟩
theorem all2_3 {α β : Type} {R : α → β → Prop} {l : List α} {a b c : β} (h : All2 R l [a, b, c]) : ∃ p q r, l = [p, q, r] ∧ R p a ∧ R q b ∧ R r c := by
  match l, h with
  | [p, q, r], ⟨h1, h2, h3, _⟩ => exact ⟨p, q, r, rfl, h1, h2, h3⟩
theorem one_cells {p c : PV} (h : p.one = true) (hc : p.cells = [c]) : p = c := by
  cases p <;> simp_all [PV.cells, PV.one]
theorem treeT_string {P : Program} {n : Nat} {p : PV} {t : TypeId} (h : treeT P (n + 1) p t) (ht : P.underlying t = some .string) (ha : aggB P t = some false) : ∃ s, p = .str s ∧ s.length ≤ maxLen := by
  obtain ⟨h1, h2⟩ := h
  rw [ha] at h1
  simp only [okT, ht] at h2
  obtain ⟨s, e, hs⟩ := h2
  exact ⟨s, one_cells (by simpa using h1) e, hs⟩
theorem treeT_int {P : Program} {n : Nat} {p : PV} {t : TypeId} {k : IntKind} (h : treeT P (n + 1) p t) (ht : P.underlying t = some (.int k)) (ha : aggB P t = some false) : ∃ m, p = .int k m ∧ (Go.Lit.int k m).wf = true := by
  obtain ⟨h1, h2⟩ := h
  rw [ha] at h1
  simp only [okT, ht] at h2
  obtain ⟨s, e, hs⟩ := h2
  exact ⟨s, one_cells (by simpa using h1) e, hs⟩
theorem treeT_slice {P : Program} {n : Nat} {p : PV} {t e : TypeId} (h : treeT P (n + 1) p t) (ht : P.underlying t = some (.slice e)) (ha : aggB P t = some false) :
    ∃ k xs, p = .sl k (P.cellsOf e) xs ∧ xs.length ≤ maxLen ∧ ((k = .nil ∧ xs = []) ∨ k = .mem) ∧ ∀ x ∈ xs, treeT P n x e := by
  obtain ⟨h1, h2⟩ := h
  rw [ha] at h1
  simp only [okT, ht] at h2
  obtain ⟨k, xs, e1, hs, hk, hx⟩ := h2
  exact ⟨k, xs, one_cells (by simpa using h1) e1, hs, hk, hx⟩
theorem i64_wf {m : Int} (h : (Go.Lit.int .i64 m).wf = true) : -9223372036854775808 ≤ m ∧ m ≤ 9223372036854775807 := by
  simp [Go.Lit.wf, IntKind.min, IntKind.max, IntKind.bits, IntKind.signed] at h
  omega
theorem treeT_ints {P : Program} {n : Nat} {p : PV} {t e : TypeId} {k : IntKind} (h : treeT P (n + 2) p t) (ht : P.underlying t = some (.slice e)) (ha : aggB P t = some false) (he : P.underlying e = some (.int k)) (hae : aggB P e = some false) (hc : P.cellsOf e = 1) :
    ∃ kk ns, p = .sl kk 1 (ints k ns) ∧ ns.length ≤ maxLen ∧ ((kk = .nil ∧ ns = []) ∨ kk = .mem) ∧ ∀ m ∈ ns, (Go.Lit.int k m).wf = true := by
  obtain ⟨kk, xs, rfl, hl, hk, hx⟩ := treeT_slice h ht ha
  rw [hc]
  have key : ∀ xs : List PV, (∀ x ∈ xs, treeT P (n + 1) x e) → ∃ ns, xs = ints k ns ∧ ∀ m ∈ ns, (Go.Lit.int k m).wf = true := by
    intro xs
    induction xs with
    | nil => exact fun _ => ⟨[], rfl, by simp⟩
    | cons x xs ih =>
      intro hx
      obtain ⟨m, rfl, hm⟩ := treeT_int (hx x (by simp)) he hae
      obtain ⟨ns, rfl, hns⟩ := ih fun y hy => hx y (by simp [hy])
      exact ⟨m :: ns, rfl, by simpa using ⟨hm, hns⟩⟩
  obtain ⟨ns, rfl, hns⟩ := key xs hx
  refine ⟨kk, ns, rfl, by simpa [ints] using hl, ?_, hns⟩
  rcases hk with ⟨h1, h2⟩ | h
  · exact .inl ⟨h1, by simpa [ints] using h2⟩
  · exact .inr h
theorem law_of_res {Γ : Ctx} {f : Nat} {ps : List PV} (h : res Γ f ps = some [.bool true]) : ∃ m h, callOf Γ (ev Γ m) f (ps.map .p) [] = some ([.p (.bool true)], h) := by
  obtain ⟨n, ⟨vs, H⟩, h1, h2⟩ := of_res h
  refine ⟨n, H, ?_⟩
  rw [h1]
  match vs, h2 with
  | [v], h2 =>
    simp only [mapO_cons, mapO_nil, Option.map_some] at h2
    obtain ⟨x, hx, he⟩ := Option.bind_eq_some_iff.1 h2
    simp only [Option.some.injEq, List.cons.injEq, and_true] at he
    subst he
    congr 3
    cases v with
    | p v => rw [reify_p] at hx; cases hx; rfl
    | own id n => rw [reify_own] at hx; obtain ⟨_, _, h⟩ := Option.map_eq_some_iff.1 hx; cases h
    | bx id off =>
      rw [reify_bx] at hx
      obtain ⟨cs, _, h⟩ := Option.bind_eq_some_iff.1 hx
      split at h
      · obtain ⟨_, _, h⟩ := Option.map_eq_some_iff.1 h; cases h
      · cases h
    | el id n i off =>
      rw [reify_el] at hx
      obtain ⟨cs, _, h⟩ := Option.bind_eq_some_iff.1 hx
      obtain ⟨x, _, h⟩ := Option.bind_eq_some_iff.1 h
      split at h <;> cases h
    | agg cs => rw [reify_agg] at hx; obtain ⟨_, _, h⟩ := Option.map_eq_some_iff.1 hx; cases h
    | clo f cs => rw [reify_clo] at hx; obtain ⟨_, _, h⟩ := Option.map_eq_some_iff.1 hx; cases h
    | tup cs => cases hx
    | nov => cases hx
    | any => cases hx
  | [], h2 => simp [mapO] at h2
  | v :: w :: r, h2 =>
    simp only [mapO_cons] at h2
    obtain ⟨x, hx, he⟩ := Option.bind_eq_some_iff.1 h2
    obtain ⟨y, hy, he⟩ := Option.map_eq_some_iff.1 he
    obtain ⟨z, hz, hy⟩ := Option.bind_eq_some_iff.1 hy
    obtain ⟨u, hu, hy⟩ := Option.map_eq_some_iff.1 hy
    subst hy
    cases he
end Ab
namespace Ab
open Go (IntKind BinOp UnOp World Value Addr Obj undef maxLen Program TypeId)
def structIs (P : Program) (t : TypeId) (l : List TypeId) : Bool := match P.underlying t with
  | some (.struct fs) => fs.toList.map (·.type) == l
  | _ => false
theorem structIs_spec {P : Program} {t : TypeId} {l : List TypeId} (h : structIs P t l = true) : ∃ fs, P.underlying t = some (.struct fs) ∧ fs.toList.map (·.type) = l := by
  unfold structIs at h
  split at h
  · rename_i fs hf; exact ⟨fs, hf, by simpa using h⟩
  · cases h
structure SerT (P : Program) (t ts ti tv te tb : TypeId) : Prop where
  s : structIs P t [ts, ti, ti, tv, ti] = true
  str : P.underlying ts = some .string
  int : P.underlying ti = some (.int .i64)
  vals : P.underlying tv = some (.slice te)
  v : structIs P te [tb, ti] = true
  bool : P.underlying tb = some .bool
  cells : P.cellsOf te = 2
theorem not_one {p : PV} (h : p.one = false) : p = .agg p.cells := by cases p <;> first | rfl | cases h
theorem aggB_struct {P : Program} {t : TypeId} {fs} (h : P.underlying t = some (.struct fs)) : aggB P t = some true := by unfold aggB; rw [h]
structure Ser.Ok (k : SK) (s : Ser) : Prop where
  name : s.name.length ≤ maxLen
  start : -9223372036854775808 ≤ s.start ∧ s.start ≤ 9223372036854775807
  step : -9223372036854775808 ≤ s.step ∧ s.step ≤ 9223372036854775807
  cons : -9223372036854775808 ≤ s.cons ∧ s.cons ≤ 9223372036854775807
  len : s.vals.length ≤ maxLen
  kind : (k = .nil ∧ s.vals = []) ∨ k = .mem
  vals : ∀ x ∈ s.vals, -9223372036854775808 ≤ x.2 ∧ x.2 ≤ 9223372036854775807
theorem okT_val {P : Program} {t ts ti tv te tb : TypeId} (T : SerT P t ts ti tv te tb) {n : Nat} {x : PV} (h1 : x.one = !((aggB P te).getD true)) (h : okT P (n + 2) te x.cells) : ∃ y : Bool × Int, x = .agg (valP y) ∧ -9223372036854775808 ≤ y.2 ∧ y.2 ≤ 9223372036854775807 := by
  obtain ⟨fs, h2, h3⟩ := structIs_spec T.v
  rw [aggB_struct h2] at h1
  have e := not_one (by simpa using h1)
  simp only [okT, h2, h3, okFs] at h
  obtain ⟨a, b, e1, ha, c, d, rfl, hc, rfl⟩ := h
  simp only [T.bool] at ha
  simp only [T.int] at hc
  obtain ⟨q, rfl⟩ := ha
  obtain ⟨m, rfl, hm⟩ := hc
  rw [e1] at e
  exact ⟨(q, m), e, i64_wf hm⟩
theorem treeT_series {P : Program} {t ts ti tv te tb : TypeId} (T : SerT P t ts ti tv te tb) {n : Nat} {p : PV} (h : treeT P (n + 4) p t) : ∃ k s, p = s.pv k ∧ Ser.Ok k s := by
  obtain ⟨h1, h2⟩ := h
  obtain ⟨fs, h3, h4⟩ := structIs_spec T.s
  rw [aggB_struct h3] at h1
  have e := not_one (by simpa using h1)
  rw [okT] at h2
  simp only [h3, h4, okFs] at h2
  obtain ⟨a1, b1, e1, g1, a2, b2, rfl, g2, a3, b3, rfl, g3, a4, b4, rfl, g4, a5, b5, rfl, g5, rfl⟩ := h2
  rw [okT] at g1 g2 g3 g4 g5
  simp only [T.str] at g1
  simp only [T.int] at g2 g3 g5
  simp only [T.vals] at g4
  obtain ⟨s, rfl, hs⟩ := g1
  obtain ⟨m2, rfl, hm2⟩ := g2
  obtain ⟨m3, rfl, hm3⟩ := g3
  obtain ⟨m5, rfl, hm5⟩ := g5
  obtain ⟨k, xs, rfl, hl, hk, hx⟩ := g4
  have key : ∀ xs : List PV, (∀ x ∈ xs, x.one = !((aggB P te).getD true) ∧ okT P (n + 2) te x.cells) → ∃ l : List (Bool × Int), xs = vpv l ∧ ∀ x ∈ l, -9223372036854775808 ≤ x.2 ∧ x.2 ≤ 9223372036854775807 := by
    intro xs
    induction xs with
    | nil => exact fun _ => ⟨[], rfl, by simp⟩
    | cons x xs ih =>
      intro hx
      obtain ⟨y, rfl, hy⟩ := okT_val T (hx x (by simp)).1 (hx x (by simp)).2
      obtain ⟨l, rfl, hl⟩ := ih fun z hz => hx z (by simp [hz])
      exact ⟨y :: l, rfl, fun z hz => by
        rcases List.mem_cons.1 hz with rfl | h
        · exact hy
        · exact hl z h⟩
  obtain ⟨l, rfl, hv⟩ := key xs hx
  rw [vpv_len] at hl
  refine ⟨k, ⟨s, m2, m3, l, m5⟩, ?_, hs, i64_wf hm2, i64_wf hm3, i64_wf hm5, hl, ?_, hv⟩
  · rw [e, e1, T.cells]; rfl
  · rcases hk with ⟨h, h'⟩ | h
    · refine .inl ⟨h, ?_⟩
      have := congrArg List.length h'
      rw [vpv_len] at this
      exact List.eq_nil_of_length_eq_zero this
    · exact .inr h
end Ab
