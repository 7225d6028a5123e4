import Derived.Test.YtieagbclljmnlaaGreatDoorAbY7
import Derived.LoopN
import Derived.Scope
import Derived.Test.YtieagbclljmnlaaGreatDoorAbPrim
import Derived.Lib.Bytealg
import Derived.Sort.KeysCollected
namespace Ab
open Go (IntKind BinOp UnOp World Value Addr Obj undef maxLen Program TypeId Oper Op Operand Act Sem Next Result execOp Builtin Calls Ending Exit)
def chkSts (P : Program) (N : Names) (ops : Array Oper) (nt : Nat) : List Oper → List St → Bool
 | [],[] => true
 | o :: os,s :: ss => chkSt P N ops nt o s && chkSts P N ops nt os ss
 | _,_ => false
def chkC (P : Program) (N : Names) (nt : Nat) : Go.Code → Code → Bool
 | .skip,.skip => true
 | .label _,.skip => true
 | .region _ ops draw,.ops _ l => chkSts P N ops nt ops.toList l && (match draw with | true => drawOk ops.toList l | false => true)
 | .seq a b,.seq a' b' => chkC P N nt a a' && chkC P N nt b b'
 | .cond c a b,.cond c' a' b' => chkArg N c c' && chkC P N nt a a' && chkC P N nt b b'
 | .block id c,.block _ id' c' => id == id' && chkC P N nt c c'
 | .loop c,.loop _ _ c' => chkC P N nt c c'
 | .exit id,.exit id' => id == id'
 | .ret,.ret => true
 | _,.bad => true
 | .scope c,c' => chkC P N nt c c'
 | _,_ => false
theorem chkSts_spec {P N ops nt} : ∀ {os ss},chkSts P N ops nt os ss = true → ss.length = os.length ∧ ∀ (j : Nat) s,ss[j]? = some s → ∃ o,os[j]? = some o ∧ chkSt P N ops nt o s = true
 | [],[],_ => ⟨rfl,by simp⟩
 | o :: os,s :: ss,h => by
  simp only [chkSts,Bool.and_eq_true] at h
  obtain ⟨h1,h2⟩ := chkSts_spec h.2
  refine ⟨by simp [h1],fun j s' hj => ?_⟩
  cases j with
  | zero => simp only [List.getElem?_cons_zero,Option.some.injEq] at hj; subst hj; exact ⟨o,rfl,h.1⟩
  | succ j => simpa using h2 j s' (by simpa using hj)
 | [],_ :: _,h => by cases h
 | _ :: _,[],h => by cases h
def exitOf : Ex → Exit
 | .nrm => .normal
 | .ex i => .exit i
 | .ret => .ret
section
variable {Γ : Ctx} {N : Names} {P : Program}
def After (Γ : Ctx) (N : Names) (st : Bool) (k : Nat) (w : World) (S : Nat → Prop) (μ : Nat → Value) (H : Heap) (a : Act) (env' : Env) (H' : Heap) (K : Act → World → Prop) : Prop :=
 ∀ a' w' S' μ',Run N.fn w S μ H w' S' μ' H' → (st = true → k ≤ H.length → MovesK k μ H μ' H') → Env.Rel Γ N w' S' μ' H' (look env') a' → a'.tmps.size = a.tmps.size → a'.defers = a.defers → K a' w'
def CodeAt (Γ : Ctx) (N : Names) (P : Program) (n : Nat) : Prop :=
 ∀ (nt : Nat) (c : Go.Code) (c' : Code) (env : Env) (H : Heap) (e : Ex) (env' : Env) (H' : Heap) (k : Nat),chkC P N nt c c' = true → ev Γ n c' env H = some (e,env',H') →
  ∀ w S μ a (Q : Exit → Act → World → Prop),Rel N.fn w S μ H → Env.Rel Γ N w S μ H (look env) a → nt ≤ a.tmps.size → After Γ N (c'.still k) k w S μ H a env' H' (Q (exitOf e)) → c.wp P Q a w
def RoundsAt (Γ : Ctx) (N : Names) (P : Program) (n : Nat) : Prop :=
 ∀ (nt : Nat) (c : Go.Code) (c' : Code) (live : List Nat) (gc : Option Nat) (env : Env) (H : Heap) (e : Ex) (env' : Env) (H' : Heap) (k : Nat),chkC P N nt c c' = true → ev Γ n (.loop live gc c') env H = some (e,env',H') →
  ∀ w S μ a (Q : Exit → Act → World → Prop),Rel N.fn w S μ H → Env.Rel Γ N w S μ H (look env) a → nt ≤ a.tmps.size → After Γ N (Code.still k (.loop live gc c')) k w S μ H a env' H' (Q (exitOf e)) → Go.Code.rounds P c Q n a w
theorem After.trans {st st' : Bool} {k : Nat} {w w1 : World} {S S1 : Nat → Prop} {μ μ1 : Nat → Value} {H H1 H' : Heap} {a a1 : Act} {env' : Env} {K : Act → World → Prop} (h : After Γ N st k w S μ H a env' H' K)
  (hr : Run N.fn w S μ H w1 S1 μ1 H1) (hm : st = true → k ≤ H.length → MovesK k μ H μ1 H1) (hst : st = true → st' = true) (hs : a1.tmps.size = a.tmps.size) (hd : a1.defers = a.defers) : After Γ N st' k w1 S1 μ1 H1 a1 env' H' K :=
 fun a' w' S' μ' hr' hm' he hs' hd' => h a' w' S' μ' (hr.trans hr') (fun e hk => (hm e hk).trans (hm' (hst e) (hm e hk).len)) he (hs'.trans hs) (hd'.trans hd)
theorem After.of {st st' : Bool} {k : Nat} {w : World} {S : Nat → Prop} {μ : Nat → Value} {H H' : Heap} {a : Act} {env' : Env} {K : Act → World → Prop} (h : After Γ N st k w S μ H a env' H' K) (hst : st = true → st' = true) : After Γ N st' k w S μ H a env' H' K :=
 fun a' w' S' μ' hr' hm' he hs' hd' => h a' w' S' μ' hr' (fun e hk => hm' (hst e) hk) he hs' hd'
theorem region_sound (hm : P.follows .mixedOrders = true) {cal : Nat → List AV → Heap → Option (List AV × Heap)} (hcal : CallOk Γ N P cal) {nt id k : Nat} {ops : Array Oper} {draw : Bool} {l : List St} {env env' : Env} {H H' : Heap} {w : World} {S : Nat → Prop} {μ : Nat → Value} {a : Act}
  {Q : Exit → Act → World → Prop} (hc : chkSts P N ops nt ops.toList l = true) (hd : draw = true → drawOk ops.toList l = true) (hv : evSts Γ cal l env H = some (env',H')) (hr : Rel N.fn w S μ H) (he : Env.Rel Γ N w S μ H (look env) a)
  (hn : nt ≤ a.tmps.size) (hQ : After Γ N true k w S μ H a env' H' (Q .normal)) : (Go.Code.region id ops draw).wp P Q a w := by
 obtain ⟨hl,hst⟩ := chkSts_spec hc
 have hl : l.length = ops.size := by simpa using hl
 have hst : ∀ (j : Nat) s,l[j]? = some s → ∃ o,ops[j]? = some o ∧ chkSt P N ops nt o s = true := fun j s hj => by
  obtain ⟨o,h1,h2⟩ := hst j s hj
  exact ⟨o,by simpa using h1,h2⟩
 cases draw with
 | false =>
  refine Go.wp_region ?_
  rw [List.range_eq_range',← hl]
  exact sts_sound hcal l 0 (fun j s hj => by simpa using hst j s hj) hv hr he hn fun a' w' S' μ' h1 h2 h3 h4 => hQ a' w' S' μ' h1.run (fun _ hk => h1.moves.toK hk) h2 h3 h4
 | true =>
  refine Go.wp_region_any hm ?_
  obtain ⟨E,hp,val,hC,rfl,rfl,rfl,rfl⟩ := course_of l hv
  have hdrew : Step N.fn w S μ (hp 0) { w with drawn := w.drawn + 1 } S μ (hp 0) := .grow hr (Grows.drew w) (fun _ h => h) (fun g h => Nat.lt_of_lt_of_le (hr.lt g h) (Grows.drew w).size) (fun _ h => .inl h)
  have hrep : ∀ i,(Array.replicate ops.size false).getD i false = false := fun i => by
   rcases Nat.lt_or_ge i ops.size with h | h
   ·simp [h]
   ·simp [h]
  have e0 : ∀ n t,lastW l (fun i => (Array.replicate ops.size false).getD i false) t n = 0 := fun n t => by
   induction n with
   | zero => rfl
   | succ n ih => unfold lastW; rw [if_neg (by simp [hrep]),ih]
  refine draw_sound hcal (drawOk_spec hl (hd rfl)) hst hC (w0 := { w with drawn := w.drawn + 1 }) (S0 := S) (μ0 := μ) (a0 := a) hn (fun a' w' S' μ' h1 h2 h3 h4 => hQ a' w' S' μ' (hdrew.run.trans h1.run) (fun _ hk => (hdrew.moves.trans h1.moves).toK hk) h2 h3 h4)
   ops.size (List.range ops.size) _ a _ List.nodup_range (fun i => ?_) (by simp) ⟨by simp [hl],fun j o _ hj => ?_,rfl,rfl,S,μ,0,.refl hdrew.rel,fun t => ?_,GlRel.step hr hdrew he.gl,.inl ⟨rfl,fun m s hm => ?_⟩⟩
  ·rw [hrep i,hl]; simp
  ·rw [hrep j] at hj; cases hj
  ·rw [e0]; exact (he.env t).step hr hdrew
  ·rw [hrep m] at hm; cases hm
theorem code_both (hm : P.follows .mixedOrders = true) : ∀ n,(∀ m < n,CallOk Γ N P (callOf Γ (ev Γ m))) → CodeAt Γ N P n ∧ RoundsAt Γ N P n
 | 0,_ => ⟨fun _ _ _ _ _ _ _ _ _ _ h => by simp [ev] at h,fun _ _ _ _ _ _ _ _ _ _ _ _ h => by simp [ev] at h⟩
 | n + 1,hcal => by
  obtain ⟨ihC,ihR⟩ := code_both hm n fun m h => hcal m (by omega)
  have hR : RoundsAt Γ N P (n + 1) := by
   intro nt c c' live gc env H e env' H' k hc hv w S μ a Q hr he hn hQ
   rw [Go.rounds_succ]
   simp only [ev] at hv
   split at hv
   ·cases hv
   ·rename_i e1 h1 hnorm
    obtain ⟨μ1,hrun,hmv,he1⟩ := norm_sound hr he hnorm
    have hst : Code.still k (.loop live gc c') = true → keepOk gc k = true ∧ c'.still k = true := fun h => by simp only [Code.still,Bool.and_eq_true] at h; exact h
    split at hv
    ·rename_i env2 H2 hb
     refine ihC nt c c' e1 h1 _ _ _ k hc hb w S μ1 a _ hrun.rel he1 hn fun a2 w2 S2 μ2 hrun2 hm2 he2 hs2 hd2 => ?_
     exact ihR nt c c' live gc env2 H2 e env' H' k hc hv w2 S2 μ2 a2 Q hrun2.rel he2 (by omega) (hQ.trans (hrun.trans hrun2) (fun h hk => (hmv k (hst h).1 hk).trans (hm2 (hst h).2 (hmv k (hst h).1 hk).len)) id hs2 hd2)
    ·rename_i hno
     obtain ⟨ex,env2,H2⟩ : Out := (e,env',H')
     refine ihC nt c c' e1 h1 _ _ _ k hc hv w S μ1 a _ hrun.rel he1 hn ?_
     have hQ := hQ.trans hrun (fun h hk => hmv k (hst h).1 hk) (fun h => (hst h).2) rfl rfl
     cases e with
     | nrm => exact absurd hv (hno _ _)
     | ex i => exact hQ
     | ret => exact hQ
  refine ⟨?_,hR⟩
  intro nt c
  induction c with
  | scope c ih =>
   intro c' env H e env' H' k hc hv w S μ a Q hr he hn hQ
   have hc : chkC P N nt c c' = true := by cases c' <;> first | exact hc | (simp [ev] at hv)
   refine Go.wp_scope_straight (ih c' env H e env' H' k hc hv w S μ a _ hr he hn ?_)
   cases e <;> exact hQ
  | skip =>
   intro c' env H e env' H' k hc hv w S μ a Q hr he hn hQ
   have nobad : c' ≠ .bad := by rintro rfl; simp [ev] at hv
   cases c' <;> first | (exact Bool.noConfusion hc) | (exact absurd rfl nobad) | skip
   simp only [ev,Option.some.injEq,Prod.mk.injEq] at hv
   obtain ⟨rfl,rfl,rfl⟩ := hv
   exact Go.wp_skip (hQ a w S μ (.refl hr) (fun _ hk => Moves.refl.toK hk) he rfl rfl)
  | label l =>
   intro c' env H e env' H' k hc hv w S μ a Q hr he hn hQ
   have nobad : c' ≠ .bad := by rintro rfl; simp [ev] at hv
   cases c' <;> first | (exact Bool.noConfusion hc) | (exact absurd rfl nobad) | skip
   simp only [ev,Option.some.injEq,Prod.mk.injEq] at hv
   obtain ⟨rfl,rfl,rfl⟩ := hv
   exact Go.wp_label (hQ a w S μ (.refl hr) (fun _ hk => Moves.refl.toK hk) he rfl rfl)
  | ret =>
   intro c' env H e env' H' k hc hv w S μ a Q hr he hn hQ
   have nobad : c' ≠ .bad := by rintro rfl; simp [ev] at hv
   cases c' <;> first | (exact Bool.noConfusion hc) | (exact absurd rfl nobad) | skip
   simp only [ev,Option.some.injEq,Prod.mk.injEq] at hv
   obtain ⟨rfl,rfl,rfl⟩ := hv
   exact Go.wp_ret (hQ a w S μ (.refl hr) (fun _ hk => Moves.refl.toK hk) he rfl rfl)
  | exit id =>
   intro c' env H e env' H' k hc hv w S μ a Q hr he hn hQ
   have nobad : c' ≠ .bad := by rintro rfl; simp [ev] at hv
   cases c' <;> first | (exact Bool.noConfusion hc) | (exact absurd rfl nobad) | skip
   simp only [ev,Option.some.injEq,Prod.mk.injEq] at hv
   obtain ⟨rfl,rfl,rfl⟩ := hv
   simp only [chkC,beq_iff_eq] at hc
   subst hc
   exact Go.wp_exit (hQ a w S μ (.refl hr) (fun _ hk => Moves.refl.toK hk) he rfl rfl)
  | region id ops draw =>
   intro c' env H e env' H' k hc hv w S μ a Q hr he hn hQ
   have nobad : c' ≠ .bad := by rintro rfl; simp [ev] at hv
   cases c' <;> first | (exact Bool.noConfusion hc) | (exact absurd rfl nobad) | skip
   rename_i live l
   simp only [ev,Option.map_eq_some_iff,Prod.mk.injEq] at hv
   obtain ⟨⟨env1,H1⟩,hv,rfl,rfl,rfl⟩ := hv
   simp only [chkC,Bool.and_eq_true] at hc
   refine region_sound (k := k) hm (hcal n (by omega)) hc.1 (fun h => by subst h; exact hc.2) hv hr he hn fun a' w' S' μ' h1 hm1 h2 h3 h4 => ?_
   exact hQ a' w' S' μ' h1 (fun _ hk => hm1 rfl hk) (h2.prune live) h3 h4
  | seq x y _ _ =>
   intro c' env H e env' H' k hc hv w S μ a Q hr he hn hQ
   have nobad : c' ≠ .bad := by rintro rfl; simp [ev] at hv
   cases c' <;> first | (exact Bool.noConfusion hc) | (exact absurd rfl nobad) | skip
   rename_i x' y'
   simp only [chkC,Bool.and_eq_true] at hc
   refine Go.wp_seq ?_
   simp only [ev] at hv
   split at hv
   ·rename_i env1 H1 h1
    refine ihC nt x x' _ _ _ _ _ k hc.1 h1 w S μ a _ hr he hn fun a1 w1 S1 μ1 hrun hm1 he1 hs hd => ?_
    exact ihC nt y y' _ _ _ _ _ k hc.2 hv w1 S1 μ1 a1 Q hrun.rel he1 (by omega) (hQ.trans hrun (fun h hk => hm1 (by simp only [Code.still,Bool.and_eq_true] at h; exact h.1) hk) (fun h => by simp only [Code.still,Bool.and_eq_true] at h; exact h.2) hs hd)
   ·rename_i hno
    refine ihC nt x x' _ _ _ _ _ k hc.1 hv w S μ a _ hr he hn ?_
    have hQ := hQ.of (st' := x'.still k) (fun h => by simp only [Code.still,Bool.and_eq_true] at h; exact h.1)
    cases e with
    | nrm => exact absurd hv (hno _ _)
    | ex i => exact hQ
    | ret => exact hQ
  | cond g x y _ _ =>
   intro c' env H e env' H' k hc hv w S μ a Q hr he hn hQ
   have nobad : c' ≠ .bad := by rintro rfl; simp [ev] at hv
   cases c' <;> first | (exact Bool.noConfusion hc) | (exact absurd rfl nobad) | skip
   rename_i g' x' y'
   simp only [chkC,Bool.and_eq_true] at hc
   have hg := he.arg hc.1.1
   simp only [ev] at hv
   split at hv
   ·rename_i t ht
    rw [ht] at hg
    refine Go.wp_cond hg.bool_inv ?_
    cases t with
    | true => exact ihC nt x x' _ _ _ _ _ k hc.1.2 hv w S μ a Q hr he hn (hQ.of fun h => by simp only [Code.still,Bool.and_eq_true] at h; exact h.1)
    | false => exact ihC nt y y' _ _ _ _ _ k hc.2 hv w S μ a Q hr he hn (hQ.of fun h => by simp only [Code.still,Bool.and_eq_true] at h; exact h.2)
   ·cases hv
  | block id x _ =>
   intro c' env H e env' H' k hc hv w S μ a Q hr he hn hQ
   have nobad : c' ≠ .bad := by rintro rfl; simp [ev] at hv
   cases c' <;> first | (exact Bool.noConfusion hc) | (exact absurd rfl nobad) | skip
   rename_i live id' x'
   simp only [chkC,Bool.and_eq_true,beq_iff_eq] at hc
   obtain ⟨rfl,hc⟩ := hc
   refine Go.wp_block ?_
   simp only [ev] at hv
   split at hv
   ·rename_i env1 H1 h1
    simp only [Option.some.injEq,Prod.mk.injEq] at hv
    obtain ⟨rfl,rfl,rfl⟩ := hv
    exact ihC nt x x' _ _ _ _ _ k hc h1 w S μ a _ hr he hn fun a1 w1 S1 μ1 hrun hm1 he1 hs hd => hQ a1 w1 S1 μ1 hrun hm1 (he1.prune live) hs hd
   ·rename_i i env1 H1 h1
    refine ihC nt x x' _ _ _ _ _ k hc h1 w S μ a _ hr he hn fun a1 w1 S1 μ1 hrun hm1 he1 hs hd => ?_
    simp only [exitOf,Go.Exit.inBlock]
    split at hv
    ·rename_i hi
     simp only [Option.some.injEq,Prod.mk.injEq] at hv
     obtain ⟨rfl,rfl,rfl⟩ := hv
     rw [if_pos hi]
     exact hQ a1 w1 S1 μ1 hrun hm1 (he1.prune live) hs hd
    ·rename_i hi
     simp only [Option.some.injEq,Prod.mk.injEq] at hv
     obtain ⟨rfl,rfl,rfl⟩ := hv
     rw [if_neg hi]
     exact hQ a1 w1 S1 μ1 hrun hm1 he1 hs hd
   ·rename_i h1 h2
    refine ihC nt x x' _ _ _ _ _ k hc hv w S μ a _ hr he hn fun a1 w1 S1 μ1 hrun hm1 he1 hs hd => ?_
    cases e with
    | nrm => exact absurd hv (h1 _ _)
    | ex i => exact absurd hv (h2 _ _ _)
    | ret => exact hQ a1 w1 S1 μ1 hrun hm1 he1 hs hd
  | loop x _ =>
   intro c' env H e env' H' k hc hv w S μ a Q hr he hn hQ
   have nobad : c' ≠ .bad := by rintro rfl; simp [ev] at hv
   cases c' <;> first | (exact Bool.noConfusion hc) | (exact absurd rfl nobad) | skip
   rename_i live gc x'
   simp only [chkC] at hc
   exact Go.wp_loop_rounds (n + 1) (hR nt x x' live gc env H e env' H' k hc hv w S μ a Q hr he hn hQ)
  | rangeFunc f ps x y => intro c' _ _ _ _ _ _ hc hv; cases c' <;> first | (exact Bool.noConfusion hc) | (simp [ev] at hv)
  | goto l => intro c' _ _ _ _ _ _ hc hv; cases c' <;> first | (exact Bool.noConfusion hc) | (simp [ev] at hv)
  | refuse s => intro c' _ _ _ _ _ _ hc hv; cases c' <;> first | (exact Bool.noConfusion hc) | (simp [ev] at hv)
end
end Ab
namespace Ab
open Go (IntKind BinOp UnOp World Value Addr Obj undef maxLen Program TypeId Oper Op Operand Act Sem Next Result execOp Builtin Calls Ending Exit)
def chkRes (P : Program) : List Go.ResultVar → List RV → Bool
 | [], [] => true
 | .tmp t :: rs, .slot t' :: ss => t == t' && chkRes P rs ss
 | .cell t T :: rs, .cell t' sz ag :: ss => t == t' && aggT P T ag && sizeT P T sz && chkRes P rs ss
 | _, _ => false
def chkF (P : Program) (N : Names) (g : Go.Func) (fn : AFn) : Bool :=
 decide (fn.np ≤ g.ntmps) && chkRes P g.results.toList fn.results && !(g.name == "runtime.NumGoroutine") && (match g.body with | some c => chkC P N g.ntmps c fn.body | none => false)
def PrimOk (Γ : Ctx) (N : Names) (P : Program) (f : Nat) (g : List PV → Option (List PV)) : Prop :=
 ∀ ps rs, g ps = some rs → ∀ w S us, (∀ g, S g → g < w.heap.size) → GlRel Γ N w S → All2 (fun u p => RelP N.fn w S p u) us ps →
  Does P (N.fn f) us.toArray w (fun v w' => ∃ vs S', v = resVal vs ∧ Grows w w' ∧ (∀ g, S g → S' g) ∧ (∀ g, S' g → g < w'.heap.size) ∧ (∀ g, S' g → S g ∨ w.heap.size ≤ g) ∧
   All2 (fun u p => RelP N.fn w' S' p u) vs rs)
def FreshOk (Γ : Ctx) (N : Names) (P : Program) (f : Nat) (g : List PV → Option (Nat × List PV)) : Prop :=
 ∀ ps r, g ps = some r → ∀ w S us, (∀ g, S g → g < w.heap.size) → GlRel Γ N w S → All2 (fun u p => RelP N.fn w S p u) us ps →
  Does P (N.fn f) us.toArray w (fun v w' => ∃ cells, Grows w w' ∧ RowAt w' v r.1 r.2.length cells ∧ v.oneCell' = true ∧ FlatRel N.fn w' S r.1 r.2 cells ∧ ∀ g, blkOf v = some g → w.heap.size ≤ g)
def UpdOk (Γ : Ctx) (N : Names) (P : Program) (f : Nat) (g : List PV → Nat → List PV → Option (List PV)) : Prop :=
 ∀ ps sz xs ys, g ps sz xs = some ys → ys.length = xs.length → xs.length ≤ lim → ∀ w S u us cells, (∀ g, S g → g < w.heap.size) → GlRel Γ N w S → RowAt w u sz xs.length cells → FlatRel N.fn w S sz xs cells →
  (∀ g, blkOf u = some g → ¬ S g ∧ g < w.heap.size) → All2 (fun u p => RelP N.fn w S p u) us ps →
  Does P (N.fn f) (u :: us).toArray w (fun v w' => v = resVal [] ∧ w'.os = w.os ∧ w'.tape = w.tape ∧ w'.output = w.output ∧ w.heap.size ≤ w'.heap.size ∧ (∀ b, b < w.heap.size → blkOf u ≠ some b → w'.heap[b]? = w.heap[b]?) ∧
   ∃ cells', RowAt w' u sz ys.length cells' ∧ FlatRel N.fn w' S sz ys cells')
def LookOk (Γ : Ctx) (N : Names) (P : Program) (f : Nat) (g : List AV → Heap → Option (List PV)) : Prop :=
 ∀ args H rs, g args H = some rs → ∀ w S μ us, Rel N.fn w S μ H → GlRel Γ N w S → All2 (fun u x => RelV N.fn w S μ H x u) us args →
  Does P (N.fn f) us.toArray w (fun v w' => ∃ vs S', v = resVal vs ∧ Grows w w' ∧ (∀ g, S g → S' g) ∧ (∀ g, S' g → g < w'.heap.size) ∧ (∀ g, S' g → S g ∨ w.heap.size ≤ g) ∧
   All2 (fun u p => RelP N.fn w' S' p u) vs rs)
def LookcOk (Γ : Ctx) (N : Names) (P : Program) (f c : Nat) (q : List AV → Heap → Option (List (List PV × Int))) (g : List AV → Heap → Option (List PV)) : Prop :=
 ∀ args H ps rs, q args H = some ps → g args H = some rs →
  (∀ p ∈ ps, ∀ w T us, (∀ g, T g → g < w.heap.size) → GlRel Γ N w T → All2 (fun u p => RelP N.fn w T p u) us p.1 → Does P (N.fn c) us.toArray w (fun v w' => v = .int .i64 p.2 ∧ Grows w w')) →
  ∀ w S μ us, Rel N.fn w S μ H → GlRel Γ N w S → All2 (fun u x => RelV N.fn w S μ H x u) us args →
  Does P (N.fn f) us.toArray w (fun v w' => ∃ vs S', v = resVal vs ∧ Grows w w' ∧ (∀ g, S g → S' g) ∧ (∀ g, S' g → g < w'.heap.size) ∧ (∀ g, S' g → S g ∨ w.heap.size ≤ g) ∧
   All2 (fun u p => RelP N.fn w' S' p u) vs rs)
structure Known (Γ : Ctx) (N : Names) (P : Program) : Prop where
 mixed : P.follows .mixedOrders = true
 code : ∀ f fn, Γ.fn f = some (.code fn) → ∃ g, P.funcs[N.fn f]? = some g ∧ chkF P N g fn = true
 prim : ∀ f g, Γ.fn f = some (.prim g) → PrimOk Γ N P f g
 fresh : ∀ f g, Γ.fn f = some (.fresh g) → FreshOk Γ N P f g
 upd : ∀ f g, Γ.fn f = some (.upd g) → UpdOk Γ N P f g
 look : ∀ f g, Γ.fn f = some (.look g) → LookOk Γ N P f g
 lookc : ∀ f c q g, Γ.fn f = some (.lookc c q g) → LookcOk Γ N P f c q g
section
variable {Γ : Ctx} {N : Names} {P : Program}
theorem look_init : ∀ {args : List AV} {t : Nat}, look (initEnv args) t = (args[t]?).getD .any := by
 have key : ∀ (args : List AV) (k t : Nat), look ((args.zipIdx k).map fun x => (x.2, x.1)) t = if k ≤ t then (args[t - k]?).getD .any else .any := by
  intro args
  induction args with
  | nil => intro k t; simp [look]
  | cons x r ih =>
   intro k t
   simp only [List.zipIdx_cons, List.map_cons, look]
   by_cases h : k = t
   ·subst h; simp
   ·rw [if_neg h, ih]
    by_cases hk : k ≤ t
    ·rw [if_pos (by omega), if_pos hk, show t - k = (t - (k + 1)) + 1 by omega]; simp
    ·rw [if_neg (by omega), if_neg hk]
 intro args t
 have := key args 0 t
 simpa [initEnv] using this
def resOf (tmps : Array Value) : Go.ResultVar → Sem Value
 | .tmp t => pure (tmps.getD t undef)
 | .cell x t => do Go.loadVar t (← Go.asAddr (tmps.getD x undef))
theorem loadA_ptr {w : World} {S : Nat → Prop} {μ : Nat → Value} {H : Heap} {x : Value} {x' v : AV} {sz : Nat} {ag : Bool} (_hr : Rel N.fn w S μ H) (hx : RelV N.fn w S μ H x' x) (hv : loadA H sz ag x' = some v) : ∃ ad, x = .pointer (some ad) := by
 unfold loadA at hv
 split at hv
 ·cases hx with
  | p _ _ hx => cases hx with
   | ptr cells ad => exact ⟨ad, rfl⟩
 ·cases hx with
  | bx _ _ g _ _ _ h => exact ⟨_, h⟩
 ·rename_i id n i off
  obtain ⟨r, hb, hv⟩ := Option.bind_eq_some_iff.1 hv
  obtain ⟨y, hy, hv⟩ := Option.bind_eq_some_iff.1 hv
  obtain ⟨f, hb, hn⟩ := rowOf_spec hb
  have hi : i < n := by rw [← hn]; exact (List.getElem?_eq_some_iff.1 hy).1
  cases hx with
  | el _ _ _ _ _ hl h hone =>
  obtain ⟨_, h4⟩ := h f _ _ hb
  obtain ⟨g, cap, h5, rfl⟩ := (h4 hn.symm).1 hi
  exact ⟨_, rfl⟩
 ·cases hv
theorem results_sound {w : World} {S : Nat → Prop} {μ : Nat → Value} {H : Heap} {a : Act} {env : Env} (hrel : Rel N.fn w S μ H) (he : Env.Rel Γ N w S μ H (look env) a) : ∀ {rs : List Go.ResultVar} {ss : List RV} {vs : List AV}, chkRes P rs ss = true → mapO (RV.get env H) ss = some vs →
  ∃ us, (rs.mapM (resOf a.tmps)).run P w = .ok us w ∧ All2 (fun u x => RelV N.fn w S μ H x u) us vs
 | [], [], vs, _, h => by
  simp only [mapO, Option.some.injEq] at h; subst h
  exact ⟨[], by simp, trivial⟩
 | .tmp t :: rs, .slot t' :: ss, vs, hc, h => by
  simp only [chkRes, Bool.and_eq_true, beq_iff_eq] at hc
  obtain ⟨rfl, hc⟩ := hc
  simp only [mapO, RV.get] at h
  split at h
  ·rename_i xs hxs
   simp only [Option.some.injEq] at h; subst h
   obtain ⟨us, h1, h2⟩ := results_sound hrel he hc hxs
   refine ⟨a.tmps.getD t undef :: us, ?_, he.env t, h2⟩
   simp only [List.mapM_cons, resOf, Go.Sem.run_bind, Go.Sem.run_pure, Go.Result.andThen_ok, h1]
  ·cases h
 | .cell t T :: rs, .cell t' sz ag :: ss, vs, hc, h => by
  simp only [chkRes, Bool.and_eq_true, beq_iff_eq] at hc
  obtain ⟨⟨⟨rfl, hc1⟩, hc2⟩, hc⟩ := hc
  simp only [mapO, RV.get] at h
  split at h
  ·rename_i x hx
   split at h
   ·rename_i xs hxs
    simp only [Option.some.injEq] at h; subst h
    obtain ⟨us, h1, h2⟩ := results_sound hrel he hc hxs
    obtain ⟨ad, had⟩ := loadA_ptr hrel (he.env t) hx
    obtain ⟨u, h3, h4⟩ := q_load (P := P) hrel (aggT_spec hc1) (sizeT_spec hc2) (he.env t) hx
    rw [had] at h3
    have h3 : (Go.loadVar T ad).run P w = .ok u w := by simpa [Go.Instr.loadAt, Go.Instr.sureAddr] using h3
    refine ⟨u :: us, ?_, h4, h2⟩
    simp only [List.mapM_cons, resOf, had, Go.asAddr, Go.Sem.run_bind, Go.Sem.run_pure, Go.Result.andThen_ok, h3, h1]
   ·cases h
  ·cases h
 | .cell _ _ :: _, .slot _ :: _, _, hc, _ => by simp [chkRes] at hc
 | .tmp _ :: _, .cell _ _ _ :: _, _, hc, _ => by simp [chkRes] at hc
 | [], _ :: _, _, hc, _ => by simp [chkRes] at hc
 | .tmp _ :: _, [], _, hc, _ => by simp [chkRes] at hc
 | .cell _ _ :: _, [], _, hc, _ => by simp [chkRes] at hc
theorem run_results {fn : Go.Func} {tmps : Array Value} {w : World} {us : List Value}
  (h : (fn.results.toList.mapM (resOf tmps)).run P w = .ok us w) :
  (Go.results fn tmps).run P w = .ok (resVal us) w := by
 have e : Go.results fn tmps = (do let vs ← fn.results.mapM (resOf tmps); pure (if h : vs.size = 1 then vs[0] else .tuple vs)) := rfl
 rw [e, Array.mapM_eq_mapM_toList]
 simp only [Go.Sem.run_bind, h, Go.Result.andThen_ok, bind_assoc, map_eq_pure_bind, pure_bind, Go.Sem.run_pure]
 match us with
 | [] => simp [resVal]
 | [x] => simp [resVal]
 | x :: y :: r => simp [resVal]
def plainCall (Γ : Ctx) (n : Nat) : Nat → List AV → Heap → Option (List AV × Heap) := fun f args H =>
 match Γ.fn f with
 | some (.lookc _ _ _) => none
 | _ => callOf Γ (ev Γ n) f args H
theorem plain_ok (K : Known Γ N P) (n : Nat) (ih : ∀ m, m < n → CallOk Γ N P (callOf Γ (ev Γ m))) : CallOk Γ N P (plainCall Γ n) := by
  intro f args H rs H' hc
  have hno : ∀ c q g, Γ.fn f ≠ some (.lookc c q g) := by
   intro c q g e
   unfold plainCall at hc
   rw [e] at hc
   cases hc
  replace hc : callOf Γ (ev Γ n) f args H = some (rs, H') := by
   unfold plainCall at hc
   split at hc
   ·cases hc
   ·exact hc
  have hcode := (code_both (Γ := Γ) (N := N) (P := P) K.mixed n ih).1
  unfold callOf at hc
  split at hc
  ·rename_i g hg
   split at hc
   ·rename_i ps hps
    split at hc
    ·rename_i qs hqs
     simp only [Option.some.injEq, Prod.mk.injEq] at hc
     obtain ⟨rfl, rfl⟩ := hc
     have h2 := K.prim f g hg ps qs hqs
     refine fun w S μ us hr hgl ha => (h2 w S us hr.lt hgl ?_).mono ?_
     ·have := pures_spec hps
      subst this
      have ha := ha.get
      refine .of_get (by simpa using ha.1) fun j x y hx hy => ?_
      exact (ha.2 j x (.p y) hx (by simp [hy])).p_inv
     ·rintro e w' ⟨vs, S', rfl, hg, g1, g2, g3, hv⟩
      exact ⟨vs, S', μ, rfl, (Step.grow hr hg g1 g2 g3).run, fun _ => .refl, All2.map_right (hv.imp fun u p h => .p _ _ h)⟩
    ·cases hc
   ·cases hc
  ·rename_i g hg
   split at hc
   rotate_left
   ·cases hc
   rename_i ps hps
   split at hc
   rotate_left
   ·cases hc
   rename_i r hgr
   split at hc
   rotate_left
   ·cases hc
   rename_i h0
   simp only [Option.some.injEq, Prod.mk.injEq] at hc
   obtain ⟨rfl, rfl⟩ := hc
   refine fun w S μ us hr hgl ha => (K.fresh f g hg ps r hgr w S us hr.lt hgl ?_).mono ?_
   ·have := pures_spec hps
    subst this
    have ha := ha.get
    refine .of_get (by simpa using ha.1) fun j x y hx hy => ?_
    exact (ha.2 j x (.p y) hx (by simp [hy])).p_inv
   ·rintro e w' ⟨cells, hgw, hrow, hone, hfl, hn⟩
    obtain ⟨μ', s1, s2⟩ := step_newrow hr hgw h0.1 h0.2 hrow hfl hn
    exact ⟨[e], S, μ', rfl, s1.run, fun _ => s1.moves, s2, trivial⟩
  ·rename_i g hg
   split at hc
   rotate_left
   ·cases hc
   rename_i id n args
   split at hc
   rotate_left
   ·cases hc
   rename_i sz xs hb
   split at hc
   rotate_left
   ·cases hc
   rename_i hxn
   split at hc
   rotate_left
   ·cases hc
   rename_i ps hps
   split at hc
   rotate_left
   ·cases hc
   rename_i ys hys
   split at hc
   rotate_left
   ·cases hc
   rename_i hyl
   simp only [Option.some.injEq, Prod.mk.injEq] at hc
   obtain ⟨rfl, rfl⟩ := hc
   intro w S μ us hr hgl ha
   match us, ha with
   | u :: us, ⟨hu, ha⟩ =>
   have eu : u = μ id := by
    cases hu with
    | own _ _ _ _ h _ => exact (h _ _ _ hb).2 hxn.symm
   subst eu
   obtain ⟨h0, hlim, cells, hrow, hx1, hx2, _⟩ := hr.blk id _ hb
   refine (K.upd f g hg ps sz xs ys hys hyl hlim w S (μ id) us cells hr.lt hgl hrow ⟨hx1, hx2⟩ (fun b hbk => ⟨hr.apart b (alive_iff.2 ⟨id, _, hb, .inr ⟨sz, xs, rfl⟩, hbk⟩), hr.blk_lt hb hbk⟩) ?_).mono ?_
   ·have := pures_spec hps
    subst this
    have ha := ha.get
    refine .of_get (by simpa using ha.1) fun j x y hx hy => ?_
    exact (ha.2 j x (.p y) hx (by simp [hy])).p_inv
   ·rintro e w' ⟨rfl, q1, q2, q3, q4, q5, cells', q6, q7⟩
    have hm : Moves μ H (upd μ id (μ id)) (H.set id (.row false sz ys)) := moves_set_row hb (by omega) (fun _ => rfl)
    have hs : Step N.fn w S μ H w' S (upd μ id (μ id)) (H.set id (.row false sz ys)) :=
     Step.set hr hb (.inr ⟨sz, xs, rfl⟩) q1 q2 q3 q4 (fun b h1 h2 => q5 b h1 h2) hm ⟨h0, by omega, cells', by rw [upd_same]; exact q6, q7.1, q7.2, by simp⟩ (fun b hbk => .inl hbk)
    exact ⟨[], S, _, rfl, hs.run, fun _ => hs.moves, trivial⟩
  ·rename_i g hg
   split at hc
   ·rename_i qs hqs
    simp only [Option.some.injEq, Prod.mk.injEq] at hc
    obtain ⟨rfl, rfl⟩ := hc
    have h2 := K.look f g hg args H qs hqs
    refine fun w S μ us hr hgl ha => (h2 w S μ us hr hgl ha).mono ?_
    rintro e w' ⟨vs, S', rfl, hg, g1, g2, g3, hv⟩
    exact ⟨vs, S', μ, rfl, (Step.grow hr hg g1 g2 g3).run, fun _ => .refl, All2.map_right (hv.imp fun u p h => .p _ _ h)⟩
   ·cases hc
  ·rename_i c q g hg
   exact absurd hg (hno c q g)
  ·rename_i fn hf
   obtain ⟨g, hg, hchk⟩ := K.code f fn hf
   simp only [chkF, Bool.and_eq_true, decide_eq_true_eq] at hchk
   obtain ⟨⟨⟨c1, c2⟩, c3⟩, c4⟩ := hchk
   split at c4
   rotate_left
   ·cases c4
   rename_i body hbody
   split at hc
   rotate_left
   ·cases hc
   rename_i hlen
   have henter : Enters P (N.fn f) := fun us w => by
    have hnm : (g.name == "runtime.NumGoroutine") = false := by simpa using c3
    simp only [beq_eq_false_iff_ne, ne_eq] at hnm
    simp [Go.callFunc, hg, hnm, hbody]
   intro w S μ us hr hgl ha
   refine .inl ⟨henter _ _, Go.calls_of_wp hg hbody ?_⟩
   have hul : us.length = args.length := ha.get.1
   have he0 : Env.Rel Γ N w S μ H (look (initEnv args)) { tmps := us.toArray ++ Array.replicate (g.ntmps - us.toArray.size) undef, defers := [] } := by
    refine ⟨fun t => ?_, hgl⟩
    rw [look_init]
    rcases Nat.lt_or_ge t args.length with h | h
    ·rw [List.getElem?_eq_getElem h, Option.getD_some]
     have := ha.get.2 t (us[t]'(by omega)) args[t] (List.getElem?_eq_getElem _) (List.getElem?_eq_getElem _)
     have e : (us.toArray ++ Array.replicate (g.ntmps - us.toArray.size) undef).getD t undef = us[t]'(by omega) := by
      rw [Array.getD_eq_getD_getElem?, Array.getElem?_append_left (by simp; omega)]
      simp [List.getElem?_eq_getElem (show t < us.length by omega)]
     rw [e]; exact this
    ·rw [List.getElem?_eq_none h, Option.getD_none]; exact .any _
   split at hc
   ·cases hc
   ·rename_i ex env' H1 hno hev
    split at hc
    ·rename_i vs hvs
     simp only [Option.some.injEq, Prod.mk.injEq] at hc
     obtain ⟨rfl, rfl⟩ := hc
     refine hcode g.ntmps body fn.body (initEnv args) H ex env' H1 H.length c4 hev w S μ _ _ hr he0 (by simp; omega) fun a' w' S' μ' hrun hmv he' hs hd => ?_
     have hmv : stillF Γ H.length f = true → Moves μ H μ' H1 := fun h => (hmv (by simpa [stillF, hf] using h) (Nat.le_refl _)).toMoves
     obtain ⟨us', h1, h2⟩ := results_sound hrun.rel he' c2 hvs
     have h3 := run_results h1
     cases ex with
     | nrm => exact ⟨hd, _, h3, _, rfl, us', S', μ', rfl, hrun, hmv, h2⟩
     | ret => exact ⟨hd, _, h3, _, rfl, us', S', μ', rfl, hrun, hmv, h2⟩
     | ex i => exact (hno i rfl).elim
    ·cases hc
   ·cases hc
  ·cases hc
theorem runI_plain {n c : Nat} {as : List PV} {m : Int} (h : runI Γ (ev Γ n) c as = some m) : ∃ H', plainCall Γ n c (as.map .p) [] = some ([.p (.int .i64 m)], H') := by
 unfold runI at h
 split at h
 ·rename_i fn hf
  split at h
  ·rename_i hl
   split at h
   ·cases h
   ·rename_i x env' H' hno ho
    split at h
    ·rename_i k hk
     simp only [Option.some.injEq] at h
     subst h
     refine ⟨H', ?_⟩
     unfold plainCall
     rw [hf]
     simp only
     unfold callOf
     rw [hf]
     simp only [hl, if_true, ho]
     cases x with
     | nrm => simp only [hk]
     | ret => simp only [hk]
     | ex i => exact (hno i rfl).elim
    ·cases h
   ·cases h
  ·cases h
 ·cases h
theorem runIs_mem {n c : Nat} : ∀ {ps : List (List PV × Int)}, runIs Γ (ev Γ n) c ps = true → ∀ p ∈ ps, runI Γ (ev Γ n) c p.1 = some p.2
 | [], _, p, hp => by simp at hp
 | x :: r, h, p, hp => by
  simp only [runIs, Bool.and_eq_true, beq_iff_eq] at h
  rcases List.mem_cons.1 hp with rfl | hp
  ·exact h.1
  ·exact runIs_mem h.2 p hp
theorem all_ok (K : Known Γ N P) : ∀ n, CallOk Γ N P (callOf Γ (ev Γ n)) := by
 intro n
 induction n using Nat.strongRecOn with
 | _ n ih =>
  have hp := plain_ok K n ih
  intro f args H rs H' hc
  by_cases hl : ∃ c q g, Γ.fn f = some (.lookc c q g)
  ·obtain ⟨c, q, g, hf⟩ := hl
   unfold callOf at hc
   rw [hf] at hc
   simp only at hc
   split at hc
   rotate_left
   ·cases hc
   rename_i ps hps
   split at hc
   rotate_left
   ·cases hc
   rename_i qs hqs
   split at hc
   rotate_left
   ·cases hc
   rename_i hruns
   simp only [Option.some.injEq, Prod.mk.injEq] at hc
   obtain ⟨rfl, rfl⟩ := hc
   have h2 := K.lookc f c q g hf args H ps qs hps hqs fun p hpm w T us hT hgl ha => by
    obtain ⟨H', hpl⟩ := runI_plain (runIs_mem hruns p hpm)
    refine (pure_call hp hT hgl ha hpl (rs := [.int .i64 p.2]) rfl).mono ?_
    rintro v w' ⟨vs, rfl, hg, hvs⟩
    match vs, hvs with
    | [v], ⟨hv, _⟩ => exact ⟨hv.int_inv, hg⟩
   refine fun w S μ us hr hgl ha => (h2 w S μ us hr hgl ha).mono ?_
   rintro e w' ⟨vs, S', rfl, hg, g1, g2, g3, hv⟩
   exact ⟨vs, S', μ, rfl, (Step.grow hr hg g1 g2 g3).run, fun _ => .refl, All2.map_right (hv.imp fun u p h => .p _ _ h)⟩
  ·refine hp f args H rs H' ?_
   unfold plainCall
   split
   ·rename_i c q g e
    exact absurd ⟨c, q, g, e⟩ hl
   ·exact hc
theorem run_sound (K : Known Γ N P) {n f : Nat} {ps rs : List PV} {r : List AV × Heap} {us : List Value} {w : World} {T : Nat → Prop} (hT : ∀ g, T g → g < w.heap.size) (hgl : GlRel Γ N w T)
  (ha : All2 (fun u p => RelP N.fn w T p u) us ps) (hc : callOf Γ (ev Γ n) f (ps.map .p) [] = some r) (hrs : mapO (reify r.2 4) r.1 = some rs) :
  Does P (N.fn f) us.toArray w (fun v w' => ∃ vs, v = resVal vs ∧ Grows w w' ∧
   All2 (fun u p => RelP N.fn w' (fun g => T g ∨ (w.heap.size ≤ g ∧ g < w'.heap.size)) p u) vs rs) :=
 pure_call (all_ok K n) hT hgl ha hc hrs
end
end Ab
namespace Ab
open Go (IntKind BinOp UnOp World Value Addr Obj undef maxLen Program TypeId Oper Op Operand Act Sem Next Result execOp Builtin Calls Ending Exit)
def RowFor (P : Program) (f : Nat) (e : Array Value → Sem Value) : Prop :=
 ∃ fn, P.funcs[f]? = some fn ∧ (fn.name == "runtime.NumGoroutine") = false ∧ fn.body.isNone = true ∧ Go.Extern.findNext fn = none ∧ Go.Extern.find fn = some e
theorem RowFor.does {P : Program} {f : Nat} {e : Array Value → Sem Value} (h : RowFor P f e) {us : Array Value} {w w' : World} {v : Value} {R : Value → World → Prop} (hrun : (e us).run P w = .ok v w') (hR : R v w') : Does P f us w R := by
 obtain ⟨fn, h1, h2, h3, h4, h5⟩ := h
 refine .inr ⟨v, w', ?_, hR⟩
 simp only [beq_eq_false_iff_ne, ne_eq] at h2
 have h3 := Option.isNone_iff_eq_none.1 h3
 simp [Go.callFunc, h1, h2, h3, h4, h5, hrun, Go.mark, Sem.run]
theorem ixB_eq (s : List UInt8) (c : UInt8) : Go.Lib.indexByte s c = ixB s c := by
 induction s with
 | nil => rfl
 | cons b l ih => simp only [Go.Lib.indexByte, ixB, ih]
section
variable {Γ : Ctx} {N : Names} {P : Program} {f : Nat}
theorem prim_indexByte (h : RowFor P (N.fn f) Go.Extern.BytealgIndexByte.indexByte) : PrimOk Γ N P f indexByteG := by
 intro ps rs hg w S us hS hgl ha
 unfold indexByteG at hg
 split at hg
 rotate_left
 ·cases hg
 rename_i s c
 simp only [Option.some.injEq] at hg
 subst hg
 match us, ha with
 | [u1, u2], ⟨h1, h2, _⟩ =>
  rw [h1.str_inv, h2.int_inv]
  rw [← ixB_eq]
  exact h.does (w' := w) (Go.Lib.run_indexByteString ⟨s.toArray⟩ c w) ⟨[.int .i64 (Go.Lib.indexByte s c.toNat.toUInt8)], S, rfl, .refl w, fun _ h => h, hS, fun _ h => .inl h, .int _ _, trivial⟩
theorem prim_count (h : RowFor P (N.fn f) Go.Extern.BytealgCount.count) : PrimOk Γ N P f countG := by
 intro ps rs hg w S us hS hgl ha
 unfold countG at hg
 split at hg
 rotate_left
 ·cases hg
 rename_i s c
 simp only [Option.some.injEq] at hg
 subst hg
 match us, ha with
 | [u1, u2], ⟨h1, h2, _⟩ =>
  rw [h1.str_inv, h2.int_inv]
  exact h.does (w' := w) (Go.Lib.run_countString ⟨s.toArray⟩ c w) ⟨[.int .i64 (s.count c.toNat.toUInt8 : Nat)], S, rfl, .refl w, fun _ h => h, hS, fun _ h => .inl h, .int _ _, trivial⟩
end
end Ab
namespace Ab
open Go (IntKind BinOp UnOp World Value Addr Obj undef maxLen Program TypeId Oper Op Operand Act Sem Next Result execOp Builtin Calls Ending Exit MapEntry DataW MemPlace Lit)
open Go.RowKit
theorem less_iff : ∀ {a b : List UInt8},bytesLess a b = true ↔ a < b
 | _,[] => by simp [bytesLess,List.not_lt_nil]
 | [],b :: y => by simp [bytesLess,List.nil_lt_cons]
 | a :: x,b :: y => by
  rw [List.cons_lt_cons_iff,← less_iff]
  simp [bytesLess]
theorem insB_perm (s : List UInt8) : ∀ l,(insB s l).Perm (s :: l)
 | [] => .refl _
 | t :: r => by
  unfold insB
  split
  ·exact ((insB_perm s r).cons t).trans (.swap s t r)
  ·exact .refl _
theorem sortB_perm : ∀ l,(sortB l).Perm l
 | [] => .refl _
 | s :: r => (insB_perm s _).trans ((sortB_perm r).cons s)
theorem insB_sorted (s : List UInt8) : ∀ {l : List (List UInt8)},l.Pairwise (· ≤ ·) → (insB s l).Pairwise (· ≤ ·)
 | [],_ => by simp [insB]
 | t :: r,h => by
  obtain ⟨h1,h2⟩ := List.pairwise_cons.1 h
  unfold insB
  split
  ·rename_i hb
   refine List.pairwise_cons.2 ⟨fun x hx => ?_,insB_sorted s h2⟩
   rcases List.mem_cons.1 ((insB_perm s r).mem_iff.1 hx) with rfl | hx
   ·exact List.le_of_lt (less_iff.1 hb)
   ·exact h1 x hx
  ·rename_i hb
   have hst : s ≤ t := by
    have : ¬ t < s := fun e => hb (less_iff.2 e)
    exact this
   refine List.pairwise_cons.2 ⟨fun x hx => ?_,h⟩
   rcases List.mem_cons.1 hx with rfl | hx
   ·exact hst
   ·exact List.le_trans hst (h1 x hx)
theorem sortB_sorted : ∀ l : List (List UInt8),(sortB l).Pairwise (· ≤ ·)
 | [] => .nil
 | s :: r => insB_sorted s (sortB_sorted r)
theorem sortB_eq {l l' : List (List UInt8)} (hp : l.Perm l') : l.mergeSort (fun x y => decide (x ≤ y)) = sortB l' := by
 have tr : ∀ a b c : List UInt8,Go.leB a b = true → Go.leB b c = true → Go.leB a c = true := fun a b c h1 h2 => by simp only [Go.leB,decide_eq_true_eq] at *; exact List.le_trans h1 h2
 have to : ∀ a b : List UInt8,(Go.leB a b || Go.leB b a) = true := fun a b => by simp only [Go.leB,Bool.or_eq_true,decide_eq_true_eq]; exact List.le_total a b
 refine List.Perm.eq_of_pairwise (le := fun a b => Go.leB a b = true) (fun a b _ _ h1 h2 => ?_) (List.pairwise_mergeSort tr to l) ?_ (((List.mergeSort_perm l Go.leB).trans hp).trans (sortB_perm l').symm)
 ·simp only [Go.leB,decide_eq_true_eq] at h1 h2
  exact List.le_antisymm h1 h2
 ·exact (sortB_sorted l').imp fun h => by simpa [Go.leB] using h
structure KeysOk (P : Program) (f K : Nat) (k : TypeId) : Prop where
 key : P.underlying k = some .string
 enters : Enters P f
 some : ∀ (bm b nn : Nat) (D0 : DataW Unit) (R : Value → Option (DataW Unit × List MemPlace)) (w : World),bm < w.heap.size → w.cell? ⟨bm,0,none⟩ = some (.map (some b)) → w.ownsMap P k R b nn D0 → Go.Maps.size D0 ≤ maxLen → Go.Maps.size D0 * 16 ≤ 140737488355328 →
  Calls P f #[.func (.func K) #[] #[.pointer (some ⟨bm,0,none⟩)]] w fun e w' => ∃ (v : Value) (ss : List (List UInt8)),e = .returned v ∧ ss.Perm (Go.strKeys D0) ∧
   w'.ownsRow w.heap.size k 1 v ss.length ((ss.mergeSort (fun x y => decide (x ≤ y))).map Go.Proofs.encStr) ∧ (v = .slice none 0 0 ↔ ss = []) ∧ Below w.heap.size w w'
 none : ∀ (bm : Nat) (w : World),bm < w.heap.size → w.cell? ⟨bm,0,.none⟩ = .some (.map .none) →
  Calls P f #[.func (.func K) #[] #[.pointer (.some ⟨bm,0,.none⟩)]] w fun e w' => e = .returned (.slice .none 0 0) ∧ Below w.heap.size w w'
theorem strKeysIn_spec : ∀ {es : List (PV × AV)} {ss : List (List UInt8)},strKeysIn es = some ss → es.map (·.1) = ss.map .str ∧ ∀ s ∈ ss,s.length ≤ lim
 | [],ss,h => by simp only [strKeysIn,Option.some.injEq] at h; subst h; simp
 | (k,v) :: r,ss,h => by
  cases k <;> simp only [strKeysIn] at h <;> try cases h
  rename_i s0
  split at h
  ·rename_i hl
   obtain ⟨r',h1,rfl⟩ := Option.map_eq_some_iff.1 h
   obtain ⟨h2,h3⟩ := strKeysIn_spec h1
   refine ⟨by simp [h2],fun s hs => ?_⟩
   rcases List.mem_cons.1 hs with rfl | hs
   ·exact hl
   ·exact h3 s hs
  ·cases h
abbrev anyR : Value → Option (DataW Unit × List MemPlace) := fun _ => some (.nil,[])
section
variable {Γ : Ctx} {N : Names} {P : Program} {w : World} {S : Nat → Prop} {μ : Nat → Value} {H : Heap}
theorem mapRel_keys {ν : Nat → Nat} {k : TypeId} (hk : P.underlying k = some .string) : ∀ {es : List (PV × AV)} {l : List MapEntry} {ss : List (List UInt8)},MapRel ν w S μ H es l → strKeysIn es = some ss →
  l.map (Go.WideElems.rg P k anyR) = ss.map (fun s => (Lit.string s,DataW.nil)) ∧ ∀ x ∈ l,∃ y,Go.WideElems.rd P k anyR x = some y
 | [],[],ss,_,h => by simp only [strKeysIn,Option.some.injEq] at h; subst h; simp
 | (kk,v) :: es,e :: l,ss,hm,h => by
  cases kk <;> simp only [strKeysIn] at h <;> try cases h
  rename_i s0
  split at h
  ·rename_i hl
   obtain ⟨r',h1,rfl⟩ := Option.map_eq_some_iff.1 h
   obtain ⟨g1,g2⟩ := mapRel_keys hk hm.2.2.2 h1
   have hkey : Go.keyOf P k e.key = some (.string s0) := by
    have h0 := hm.1
    generalize e.key = z at h0
    cases h0
    have : (⟨s0.toArray⟩ : ByteArray).size ≤ maxLen := by
     show s0.toArray.size ≤ maxLen
     rw [List.size_toArray]
     exact Nat.le_trans hl (by decide)
    simp [Go.keyOf,Go.mapKey,hk,this]
   have hrd : Go.WideElems.rd P k anyR e = some (.string s0,.nil) := by simp [Go.WideElems.rd,hkey]
   refine ⟨by simp [g1,Go.WideElems.rg_of hrd],fun x hx => ?_⟩
   rcases List.mem_cons.1 hx with rfl | hx
   ·exact ⟨_,hrd⟩
   ·exact g2 x hx
  ·cases h
 | [],_ :: _,_,h,_ => h.elim
 | (_,_) :: _,[],_,h,_ => h.elim
theorem strKeys_map {l : List (Lit × DataW Unit)} : Go.strKeys (DataW.map (l.foldr DataW.insert [])) = (l.foldr DataW.insert []).map fun p => Go.strOf p.1 := rfl
theorem owns_of {id g : Nat} {k : TypeId} (hk : P.underlying k = some .string) (hr : Rel N.fn w S μ H) {es : List (PV × AV)} {ss : List (List UInt8)} (hes : mapOf H id = some es) (hss : strKeysIn es = some ss) (hl : es.length ≤ lim) (hg : μ id = .pointer (some ⟨g,0,none⟩)) :
  ∃ D0 : DataW Unit,w.ownsMap P k anyR g es.length D0 ∧ (Go.strKeys D0).Perm ss ∧ Go.Maps.size D0 = es.length := by
 obtain ⟨g',arr,clock,e1,e2,est,e3⟩ := hr.map_of hes
 rw [hg] at e1
 cases e1
 obtain ⟨g1,g2⟩ := mapRel_keys hk e3 hss
 have hsz : arr.size = es.length := by simpa using e3.len
 have hlen : ss.length = es.length := by simpa using (congrArg List.length (strKeysIn_spec hss).1).symm
 refine ⟨_,⟨arr,clock,e2,⟨by rw [hsz]; exact Nat.le_trans hl (by decide),est,g2⟩,by omega,rfl⟩,?_,?_⟩
 ·rw [g1,strKeys_map]
  refine ((Go.WideShapes.sorted_perm _).map _).trans ?_
  rw [List.map_map]
  simp [Function.comp_def,Go.strOf]
 ·show (List.foldr DataW.insert [] _).length = _
  rw [(Go.WideShapes.sorted_perm _).length_eq,g1,List.length_map,hlen]
theorem row_texts {ν : Nat → Nat} {base : Nat} {k : TypeId} {v : Value} {l : List (List UInt8)} {w' : World} (hrow : w'.ownsRow base k 1 v l.length (l.map Go.Proofs.encStr)) (hn : v = .slice none 0 0 ↔ l = []) (hl : l.length ≤ lim) {S : Nat → Prop} (hS : ∀ g,S g → g < base) (hb : base ≤ w'.heap.size) :
  ∃ S' : Nat → Prop,(∀ g,S g → S' g) ∧ (∀ g,S' g → g < w'.heap.size) ∧ (∀ g,S' g → S g ∨ base ≤ g) ∧ RelP ν w' S' (rowS l) v := by
 cases l with
 | nil =>
  obtain rfl := hn.2 rfl
  exact ⟨S,fun _ h => h,fun g h => Nat.lt_of_lt_of_le (hS g h) hb,fun _ h => .inl h,.sl .nil 1 [] none 0 (fun _ _ => undef) (Nat.le_refl _) (Nat.zero_le _) (by simp) (by simp) (by simp) (by simp) (by simp) (by simp)⟩
 | cons s r =>
  obtain ⟨h1,h2 | ⟨g,cap,cur,rfl,hg,hc,h3,h4,h5,h6⟩⟩ := hrow
  ·exact absurd h2.2 (by simp)
  have hlt : g < w'.heap.size := (Array.getElem?_eq_some_iff.1 hc).1
  refine ⟨fun x => S x ∨ x = g,fun _ h => .inl h,fun x h => ?_,fun x h => ?_,?_⟩
  ·rcases h with h | rfl
   ·exact Nat.lt_of_lt_of_le (hS x h) hb
   ·exact hlt
  ·rcases h with h | rfl
   ·exact .inl h
   ·exact .inr hg
  have hlen : ((s :: r).map PV.str).length = (s :: r).length := by simp
  have cell : ∀ (i : Nat) t,(s :: r)[i]? = some t → w'.cell? ⟨g,i,none⟩ = some (.string ⟨t.toArray⟩) := by
   intro i t hi
   have hil := (List.getElem?_eq_some_iff.1 hi).1
   have : cur[i]? = some (.string ⟨t.toArray⟩) := by
    have h7 := congrArg (fun l => l[i]?) h6
    simp only [List.getElem?_map,hi,Option.map_some,List.getElem?_take] at h7
    rw [if_pos (by simpa using hil)] at h7
    simpa using h7
   simp [World.cell?,hc,this]
  have hgoal : RelP ν w' (fun x => S x ∨ x = g) (.sl .any 1 ((s :: r).map .str)) (.slice (some ⟨g,0,none⟩) ((s :: r).map PV.str).length cap) := by
   refine .sl .any 1 ((s :: r).map .str) (some ⟨g,0,none⟩) cap (fun i _ => .string ⟨((s :: r).getD i []).toArray⟩) (by rw [hlen]; exact h3) h4 (fun x hx => ?_) (by simp) (by simp) (fun _ => ⟨_,rfl,.inr rfl⟩) (fun ad he i x j c hx hj => ?_) (fun i x j c hx hj => ?_)
   ·obtain ⟨t,_,rfl⟩ := List.mem_map.1 hx
    exact ⟨rfl,fun c hc => by simp only [PV.cells,List.mem_singleton] at hc; subst hc; rfl⟩
   ·cases he
    rw [List.getElem?_map,Option.map_eq_some_iff] at hx
    obtain ⟨t,ht,rfl⟩ := hx
    match j,hj with
    | 0,_ =>
     have := cell i t ht
     have e : (s :: r).getD i [] = t := by rw [List.getD_eq_getElem?_getD,ht]; rfl
     rw [e,← this]
     congr 1
     by_cases hi : i = 0 <;> simp [Addr.add,hi]
   ·rw [List.getElem?_map,Option.map_eq_some_iff] at hx
    obtain ⟨t,ht,rfl⟩ := hx
    match j,hj with
    | 0,hj =>
     simp only [PV.cells,List.getElem?_cons_zero,Option.some.injEq] at hj
     subst hj
     have e : (s :: r).getD i [] = t := by rw [List.getD_eq_getElem?_getD,ht]; rfl
     rw [e]
     exact .str t
  rw [hlen] at hgoal
  exact hgoal
theorem look_keys {f : Nat} {Ks : List Nat} {k : TypeId} (h : ∀ K ∈ Ks,KeysOk P (N.fn f) (N.fn K) k) : LookOk Γ N P f (keysG Ks) := by
 intro args H rs hg w S μ us hr hgl ha
 unfold keysG at hg
 split at hg
 rotate_left
 ·cases hg
 rename_i kf b
 split at hg
 rotate_left
 ·cases hg
 rename_i hk
 have h := h kf (List.contains_iff_mem.1 hk)
 obtain ⟨cs,hb,hg⟩ := Option.bind_eq_some_iff.1 hg
 match us,ha with
 | [u],⟨hu,_⟩ =>
 cases hu with
 | clo _ _ us q1 q2 q3 =>
 have hu0 := q3 0 (.bx b 0) rfl
 obtain ⟨gb,hgb,hbl,hμ⟩ := hu0.bx_inv
 have hH := boxOf_spec hb
 have hμ := hμ _ hH
 have hus : us = #[.pointer (some ⟨gb,0,none⟩)] := by
  have : us.size = 1 := q1
  obtain ⟨u0,rfl⟩ : ∃ u0,us = #[u0] := by
   refine ⟨us[0],Array.ext (by simp [this]) fun i h1 h2 => ?_⟩
   have : i = 0 := by simp at h2; omega
   subst this; rfl
  simp at hgb
  rw [hgb]
 subst hus
 obtain ⟨g',e1,hrest⟩ := hr.blk b _ hH
 rw [hμ] at e1
 cases e1
 have hbm : gb < w.heap.size := by
  rcases hrest with ⟨arr,t,h2,_⟩ | ⟨_,_,_,h2⟩ | ⟨_,arr,_,_,h2,_⟩ <;> exact (Array.getElem?_eq_some_iff.1 h2).1
 have one : ∀ c,cs = [c] → ∃ x,w.cell? ⟨gb,0,none⟩ = some x ∧ RelV N.fn w S μ H c x := by
  rintro c rfl
  rcases hrest with ⟨arr,t,h2,h3,h4,h5⟩ | ⟨s,pos,h2,_⟩ | ⟨es,arr,clock,h2,_⟩
  ·have h6 : 0 < arr.size := by rw [h3]; simp
   refine ⟨arr[0],by simp [World.cell?,h2,h6],?_⟩
   simpa [h6] using h5 0 c rfl
  ·simp [iterCells] at h2
  ·simp [mapCells] at h2
 unfold keysV at hg
 split at hg
 ·rename_i id
  obtain ⟨es,hes,hg⟩ := Option.bind_eq_some_iff.1 hg
  obtain ⟨ss,hss,hg⟩ := Option.bind_eq_some_iff.1 hg
  simp only [Option.ite_none_right_eq_some,Option.some.injEq] at hg
  obtain ⟨hl,rfl⟩ := hg
  obtain ⟨x,hx1,hx2⟩ := one _ rfl
  obtain ⟨g,rfl,_,hg⟩ := hx2.mp_inv
  have hg := hg _ (mapOf_spec hes)
  obtain ⟨D0,d1,d2,d3⟩ := owns_of h.key hr hes hss hl hg
  have hlen : ss.length = es.length := by simpa using (congrArg List.length (strKeysIn_spec hss).1).symm
  refine .inl ⟨h.enters _ _,(h.some gb g es.length D0 anyR w hbm hx1 d1 (by rw [d3]; exact Nat.le_trans hl (by decide)) (by rw [d3]; exact Nat.le_trans (Nat.mul_le_mul_right 16 hl) (by decide))).mono ?_⟩
  rintro e w' ⟨v,zs,rfl,z1,z2,z3,z4⟩
  rw [sortB_eq (z1.trans d2)] at z2
  have zl : zs.length = ss.length := (z1.trans d2).length_eq
  have sl : (sortB ss).length = ss.length := (sortB_perm ss).length_eq
  rw [show zs.length = (sortB ss).length by omega] at z2
  have znil : v = .slice none 0 0 ↔ sortB ss = [] := by
   rw [z3,← List.length_eq_zero_iff,← List.length_eq_zero_iff,zl,sl]
  obtain ⟨S',s1,s2,s3,s4⟩ := row_texts (ν := N.fn) z2 znil (by omega) hr.lt z4.size
  exact ⟨_,rfl,[v],S',rfl,⟨z4.os,z4.tape,z4.output,z4.size,fun g hg => z4.block g hg⟩,s1,s2,s3,s4,trivial⟩
 ·simp only [Option.some.injEq] at hg
  subst hg
  obtain ⟨x,hx1,hx2⟩ := one _ rfl
  have : x = .map none := by
   have := hx2.p_inv
   cases this
   rfl
  subst this
  refine .inl ⟨h.enters _ _,(h.none gb w hbm hx1).mono ?_⟩
  rintro e w' ⟨rfl,z4⟩
  exact ⟨_,rfl,[.slice none 0 0],S,rfl,⟨z4.os,z4.tape,z4.output,z4.size,fun g hg => z4.block g hg⟩,fun _ h => h,fun g hg => Nat.lt_of_lt_of_le (hr.lt g hg) z4.size,fun _ h => .inl h,.sl .nil 1 [] none 0 (fun _ _ => undef) (Nat.le_refl _) (Nat.zero_le _) (by simp) (by simp) (by simp) (by simp) (by simp) (by simp),trivial⟩
 ·cases hg
end
end Ab
