import Derived.Test.YthecbhbcjnajbaaGreatDoorAbY7
import Derived.LoopN
import Derived.Scope
import Derived.Test.YthecbhbcjnajbaaGreatDoorAbPrim
import Derived.Lib.Bytealg
import Derived.Lib.Join
import Derived.Lib.Replace
import Derived.Lib.SlParts
namespace Ab
open Go (IntKind BinOp UnOp World Value Addr Obj undef maxLen Program TypeId Oper Op Operand Act Sem Next Result execOp Builtin Calls Ending Exit)
def chkSts (P : Program) (N : Names) (ops : Array Oper) (nt : Nat) : List Oper → List St → Bool
 | [],[] => true
 | o :: os,s :: ss => chkSt P N ops nt o s && chkSts P N ops nt os ss
 | _,_ => false
def chkC (P : Program) (N : Names) (nt : Nat) : Go.Code → Code → Bool
 | .skip,.skip => true
 | .label _,.skip => true
 | .region _ ops draw,.ops _ l => chkSts P N ops nt ops.toList l && (match draw with | true => drawOk ops.toList l | false => true)
 | .seq a b,.seq a' b' => chkC P N nt a a' && chkC P N nt b b'
 | .cond c a b,.cond c' a' b' => chkArg N c c' && chkC P N nt a a' && chkC P N nt b b'
 | .block id c,.block _ id' c' => id == id' && chkC P N nt c c'
 | .loop c,.loop _ _ c' => chkC P N nt c c'
 | .exit id,.exit id' => id == id'
 | .ret,.ret => true
 | _,.bad => true
 | .scope c,c' => chkC P N nt c c'
 | _,_ => false
theorem chkSts_spec {P N ops nt} : ∀ {os ss},chkSts P N ops nt os ss = true → ss.length = os.length ∧ ∀ (j : Nat) s,ss[j]? = some s → ∃ o,os[j]? = some o ∧ chkSt P N ops nt o s = true
 | [],[],_ => ⟨rfl,by simp⟩
 | o :: os,s :: ss,h => by
  simp only [chkSts,Bool.and_eq_true] at h
  obtain ⟨h1,h2⟩ := chkSts_spec h.2
  refine ⟨by simp [h1],fun j s' hj => ?_⟩
  cases j with
  | zero => simp only [List.getElem?_cons_zero,Option.some.injEq] at hj; subst hj; exact ⟨o,rfl,h.1⟩
  | succ j => simpa using h2 j s' (by simpa using hj)
 | [],_ :: _,h => by cases h
 | _ :: _,[],h => by cases h
def exitOf : Ex → Exit
 | .nrm => .normal
 | .ex i => .exit i
 | .ret => .ret
section
variable {Γ : Ctx} {N : Names} {P : Program}
def After (Γ : Ctx) (N : Names) (st : Bool) (k : Nat) (w : World) (S : Nat → Prop) (μ : Nat → Value) (H : Heap) (a : Act) (env' : Env) (H' : Heap) (K : Act → World → Prop) : Prop :=
 ∀ a' w' S' μ',Run N.fn w S μ H w' S' μ' H' → (st = true → k ≤ H.length → MovesK k μ H μ' H') → Env.Rel Γ N w' S' μ' H' (look env') a' → a'.tmps.size = a.tmps.size → a'.defers = a.defers → K a' w'
def CodeAt (Γ : Ctx) (N : Names) (P : Program) (n : Nat) : Prop :=
 ∀ (nt : Nat) (c : Go.Code) (c' : Code) (env : Env) (H : Heap) (e : Ex) (env' : Env) (H' : Heap) (k : Nat),chkC P N nt c c' = true → ev Γ n c' env H = some (e,env',H') →
  ∀ w S μ a (Q : Exit → Act → World → Prop),Rel N.fn w S μ H → Env.Rel Γ N w S μ H (look env) a → nt ≤ a.tmps.size → After Γ N (c'.still k) k w S μ H a env' H' (Q (exitOf e)) → c.wp P Q a w
def RoundsAt (Γ : Ctx) (N : Names) (P : Program) (n : Nat) : Prop :=
 ∀ (nt : Nat) (c : Go.Code) (c' : Code) (live : List Nat) (gc : Option Nat) (env : Env) (H : Heap) (e : Ex) (env' : Env) (H' : Heap) (k : Nat),chkC P N nt c c' = true → ev Γ n (.loop live gc c') env H = some (e,env',H') →
  ∀ w S μ a (Q : Exit → Act → World → Prop),Rel N.fn w S μ H → Env.Rel Γ N w S μ H (look env) a → nt ≤ a.tmps.size → After Γ N (Code.still k (.loop live gc c')) k w S μ H a env' H' (Q (exitOf e)) → Go.Code.rounds P c Q n a w
theorem After.trans {st st' : Bool} {k : Nat} {w w1 : World} {S S1 : Nat → Prop} {μ μ1 : Nat → Value} {H H1 H' : Heap} {a a1 : Act} {env' : Env} {K : Act → World → Prop} (h : After Γ N st k w S μ H a env' H' K)
  (hr : Run N.fn w S μ H w1 S1 μ1 H1) (hm : st = true → k ≤ H.length → MovesK k μ H μ1 H1) (hst : st = true → st' = true) (hs : a1.tmps.size = a.tmps.size) (hd : a1.defers = a.defers) : After Γ N st' k w1 S1 μ1 H1 a1 env' H' K :=
 fun a' w' S' μ' hr' hm' he hs' hd' => h a' w' S' μ' (hr.trans hr') (fun e hk => (hm e hk).trans (hm' (hst e) (hm e hk).len)) he (hs'.trans hs) (hd'.trans hd)
theorem After.of {st st' : Bool} {k : Nat} {w : World} {S : Nat → Prop} {μ : Nat → Value} {H H' : Heap} {a : Act} {env' : Env} {K : Act → World → Prop} (h : After Γ N st k w S μ H a env' H' K) (hst : st = true → st' = true) : After Γ N st' k w S μ H a env' H' K :=
 fun a' w' S' μ' hr' hm' he hs' hd' => h a' w' S' μ' hr' (fun e hk => hm' (hst e) hk) he hs' hd'
theorem region_sound (hm : P.follows .mixedOrders = true) {cal : Nat → List AV → Heap → Option (List AV × Heap)} (hcal : CallOk Γ N P cal) {nt id k : Nat} {ops : Array Oper} {draw : Bool} {l : List St} {env env' : Env} {H H' : Heap} {w : World} {S : Nat → Prop} {μ : Nat → Value} {a : Act}
  {Q : Exit → Act → World → Prop} (hc : chkSts P N ops nt ops.toList l = true) (hd : draw = true → drawOk ops.toList l = true) (hv : evSts Γ cal l env H = some (env',H')) (hr : Rel N.fn w S μ H) (he : Env.Rel Γ N w S μ H (look env) a)
  (hn : nt ≤ a.tmps.size) (hQ : After Γ N true k w S μ H a env' H' (Q .normal)) : (Go.Code.region id ops draw).wp P Q a w := by
 obtain ⟨hl,hst⟩ := chkSts_spec hc
 have hl : l.length = ops.size := by simpa using hl
 have hst : ∀ (j : Nat) s,l[j]? = some s → ∃ o,ops[j]? = some o ∧ chkSt P N ops nt o s = true := fun j s hj => by
  obtain ⟨o,h1,h2⟩ := hst j s hj
  exact ⟨o,by simpa using h1,h2⟩
 cases draw with
 | false =>
  refine Go.wp_region ?_
  rw [List.range_eq_range',← hl]
  exact sts_sound hcal l 0 (fun j s hj => by simpa using hst j s hj) hv hr he hn fun a' w' S' μ' h1 h2 h3 h4 => hQ a' w' S' μ' h1.run (fun _ hk => h1.moves.toK hk) h2 h3 h4
 | true =>
  refine Go.wp_region_any hm ?_
  obtain ⟨E,hp,val,hC,rfl,rfl,rfl,rfl⟩ := course_of l hv
  have hdrew : Step N.fn w S μ (hp 0) { w with drawn := w.drawn + 1 } S μ (hp 0) := .grow hr (Grows.drew w) (fun _ h => h) (fun g h => Nat.lt_of_lt_of_le (hr.lt g h) (Grows.drew w).size) (fun _ h => .inl h)
  have hrep : ∀ i,(Array.replicate ops.size false).getD i false = false := fun i => by
   rcases Nat.lt_or_ge i ops.size with h | h
   ·simp [h]
   ·simp [h]
  have e0 : ∀ n t,lastW l (fun i => (Array.replicate ops.size false).getD i false) t n = 0 := fun n t => by
   induction n with
   | zero => rfl
   | succ n ih => unfold lastW; rw [if_neg (by simp [hrep]),ih]
  refine draw_sound hcal (drawOk_spec hl (hd rfl)) hst hC (w0 := { w with drawn := w.drawn + 1 }) (S0 := S) (μ0 := μ) (a0 := a) hn (fun a' w' S' μ' h1 h2 h3 h4 _ => hQ a' w' S' μ' (hdrew.run.trans h1.run) (fun _ hk => (hdrew.moves.trans h1.moves).toK hk) h2 h3 h4)
   ops.size (List.range ops.size) _ a _ List.nodup_range (fun i => ?_) (by simp) ⟨by simp [hl],fun j o _ hj => ?_,rfl,rfl,fun _ _ => rfl,S,μ,0,fun _ => 0,⟨.refl hdrew.rel,GlRel.step hr hdrew he.gl,Nat.zero_le _,fun m s hm => by omega,fun m hm => ?_,fun m _ hm => ?_,fun t _ => ?_⟩,fun m hm => ?_⟩
  ·rw [hrep i,hl]; simp
  ·rw [hrep j] at hj; cases hj
  ·have := hm.2.1; rw [hrep m] at this; cases this
  ·have := hm.2.1; rw [hrep m] at this; cases this
  ·rw [e0]; exact (he.env t).step hr hdrew
  ·have := hm.2.1; rw [hrep m] at this; cases this
theorem region_apart (hm : P.follows .mixedOrders = true) {cal : Nat → List AV → Heap → Option (List AV × Heap)} (hcal : CallOk Γ N P cal) {nt id : Nat} {ops : Array Oper} {l : List St} {env env' : Env} {H H' : Heap} {w : World} {S : Nat → Prop} {μ : Nat → Value} {a : Act}
  {Q : Exit → Act → World → Prop} (hc : chkSts P N ops nt ops.toList l = true) (hd : drawOk ops.toList l = true) (hv : evSts Γ cal l env H = some (env',H')) (hr : Rel N.fn w S μ H) (he : Env.Rel Γ N w S μ H (look env) a)
  (hn : nt ≤ a.tmps.size) (hQ : ∀ a' w' S' μ',Step N.fn w S μ H w' S' μ' H' → Env.Rel Γ N w' S' μ' H' (look env') a' → a'.tmps.size = a.tmps.size → a'.defers = a.defers → (∀ t,(∀ s ∈ l,s.dst ≠ some t) → a'.tmps.getD t undef = a.tmps.getD t undef) → Q .normal a' w') : (Go.Code.region id ops true).wp P Q a w := by
 obtain ⟨hl,hst⟩ := chkSts_spec hc
 have hl : l.length = ops.size := by simpa using hl
 have hst : ∀ (j : Nat) s,l[j]? = some s → ∃ o,ops[j]? = some o ∧ chkSt P N ops nt o s = true := fun j s hj => by
  obtain ⟨o,h1,h2⟩ := hst j s hj
  exact ⟨o,by simpa using h1,h2⟩
 refine Go.wp_region_any hm ?_
 obtain ⟨E,hp,val,hC,rfl,rfl,rfl,rfl⟩ := course_of l hv
 have hdrew : Step N.fn w S μ (hp 0) { w with drawn := w.drawn + 1 } S μ (hp 0) := .grow hr (Grows.drew w) (fun _ h => h) (fun g h => Nat.lt_of_lt_of_le (hr.lt g h) (Grows.drew w).size) (fun _ h => .inl h)
 have hrep : ∀ i,(Array.replicate ops.size false).getD i false = false := fun i => by
  rcases Nat.lt_or_ge i ops.size with h | h
  ·simp [h]
  ·simp [h]
 have e0 : ∀ n t,lastW l (fun i => (Array.replicate ops.size false).getD i false) t n = 0 := fun n t => by
  induction n with
  | zero => rfl
  | succ n ih => unfold lastW; rw [if_neg (by simp [hrep]),ih]
 refine draw_sound hcal (drawOk_spec hl hd) hst hC (w0 := { w with drawn := w.drawn + 1 }) (S0 := S) (μ0 := μ) (a0 := a) hn (fun a' w' S' μ' h1 h2 h3 h4 h5 => hQ a' w' S' μ' (hdrew.trans h1) h2 h3 h4 h5)
  ops.size (List.range ops.size) _ a _ List.nodup_range (fun i => ?_) (by simp) ⟨by simp [hl],fun j o _ hj => ?_,rfl,rfl,fun _ _ => rfl,S,μ,0,fun _ => 0,⟨.refl hdrew.rel,GlRel.step hr hdrew he.gl,Nat.zero_le _,fun m s hm => by omega,fun m hm => ?_,fun m _ hm => ?_,fun t _ => ?_⟩,fun m hm => ?_⟩
 ·rw [hrep i,hl]; simp
 ·rw [hrep j] at hj; cases hj
 ·have := hm.2.1; rw [hrep m] at this; cases this
 ·have := hm.2.1; rw [hrep m] at this; cases this
 ·rw [e0]; exact (he.env t).step hr hdrew
 ·have := hm.2.1; rw [hrep m] at this; cases this
theorem code_both (hm : P.follows .mixedOrders = true) : ∀ n,(∀ m < n,CallOk Γ N P (callOf Γ (ev Γ m))) → CodeAt Γ N P n ∧ RoundsAt Γ N P n
 | 0,_ => ⟨fun _ _ _ _ _ _ _ _ _ _ h => by simp [ev] at h,fun _ _ _ _ _ _ _ _ _ _ _ _ h => by simp [ev] at h⟩
 | n + 1,hcal => by
  obtain ⟨ihC,ihR⟩ := code_both hm n fun m h => hcal m (by omega)
  have hR : RoundsAt Γ N P (n + 1) := by
   intro nt c c' live gc env H e env' H' k hc hv w S μ a Q hr he hn hQ
   rw [Go.rounds_succ]
   simp only [ev] at hv
   split at hv
   ·cases hv
   ·rename_i e1 h1 hnorm
    obtain ⟨μ1,hrun,hmv,he1⟩ := norm_sound hr he hnorm
    have hst : Code.still k (.loop live gc c') = true → keepOk gc k = true ∧ c'.still k = true := fun h => by simp only [Code.still,Bool.and_eq_true] at h; exact h
    split at hv
    ·rename_i env2 H2 hb
     refine ihC nt c c' e1 h1 _ _ _ k hc hb w S μ1 a _ hrun.rel he1 hn fun a2 w2 S2 μ2 hrun2 hm2 he2 hs2 hd2 => ?_
     exact ihR nt c c' live gc env2 H2 e env' H' k hc hv w2 S2 μ2 a2 Q hrun2.rel he2 (by omega) (hQ.trans (hrun.trans hrun2) (fun h hk => (hmv k (hst h).1 hk).trans (hm2 (hst h).2 (hmv k (hst h).1 hk).len)) id hs2 hd2)
    ·rename_i hno
     obtain ⟨ex,env2,H2⟩ : Out := (e,env',H')
     refine ihC nt c c' e1 h1 _ _ _ k hc hv w S μ1 a _ hrun.rel he1 hn ?_
     have hQ := hQ.trans hrun (fun h hk => hmv k (hst h).1 hk) (fun h => (hst h).2) rfl rfl
     cases e with
     | nrm => exact absurd hv (hno _ _)
     | ex i => exact hQ
     | ret => exact hQ
  refine ⟨?_,hR⟩
  intro nt c
  induction c with
  | scope c ih =>
   intro c' env H e env' H' k hc hv w S μ a Q hr he hn hQ
   have hc : chkC P N nt c c' = true := by cases c' <;> first | exact hc | (simp [ev] at hv)
   refine Go.wp_scope_straight (ih c' env H e env' H' k hc hv w S μ a _ hr he hn ?_)
   cases e <;> exact hQ
  | skip =>
   intro c' env H e env' H' k hc hv w S μ a Q hr he hn hQ
   have nobad : c' ≠ .bad := by rintro rfl; simp [ev] at hv
   cases c' <;> first | (exact Bool.noConfusion hc) | (exact absurd rfl nobad) | skip
   simp only [ev,Option.some.injEq,Prod.mk.injEq] at hv
   obtain ⟨rfl,rfl,rfl⟩ := hv
   exact Go.wp_skip (hQ a w S μ (.refl hr) (fun _ hk => Moves.refl.toK hk) he rfl rfl)
  | label l =>
   intro c' env H e env' H' k hc hv w S μ a Q hr he hn hQ
   have nobad : c' ≠ .bad := by rintro rfl; simp [ev] at hv
   cases c' <;> first | (exact Bool.noConfusion hc) | (exact absurd rfl nobad) | skip
   simp only [ev,Option.some.injEq,Prod.mk.injEq] at hv
   obtain ⟨rfl,rfl,rfl⟩ := hv
   exact Go.wp_label (hQ a w S μ (.refl hr) (fun _ hk => Moves.refl.toK hk) he rfl rfl)
  | ret =>
   intro c' env H e env' H' k hc hv w S μ a Q hr he hn hQ
   have nobad : c' ≠ .bad := by rintro rfl; simp [ev] at hv
   cases c' <;> first | (exact Bool.noConfusion hc) | (exact absurd rfl nobad) | skip
   simp only [ev,Option.some.injEq,Prod.mk.injEq] at hv
   obtain ⟨rfl,rfl,rfl⟩ := hv
   exact Go.wp_ret (hQ a w S μ (.refl hr) (fun _ hk => Moves.refl.toK hk) he rfl rfl)
  | exit id =>
   intro c' env H e env' H' k hc hv w S μ a Q hr he hn hQ
   have nobad : c' ≠ .bad := by rintro rfl; simp [ev] at hv
   cases c' <;> first | (exact Bool.noConfusion hc) | (exact absurd rfl nobad) | skip
   simp only [ev,Option.some.injEq,Prod.mk.injEq] at hv
   obtain ⟨rfl,rfl,rfl⟩ := hv
   simp only [chkC,beq_iff_eq] at hc
   subst hc
   exact Go.wp_exit (hQ a w S μ (.refl hr) (fun _ hk => Moves.refl.toK hk) he rfl rfl)
  | region id ops draw =>
   intro c' env H e env' H' k hc hv w S μ a Q hr he hn hQ
   have nobad : c' ≠ .bad := by rintro rfl; simp [ev] at hv
   cases c' <;> first | (exact Bool.noConfusion hc) | (exact absurd rfl nobad) | skip
   rename_i live l
   simp only [ev,Option.map_eq_some_iff,Prod.mk.injEq] at hv
   obtain ⟨⟨env1,H1⟩,hv,rfl,rfl,rfl⟩ := hv
   simp only [chkC,Bool.and_eq_true] at hc
   refine region_sound (k := k) hm (hcal n (by omega)) hc.1 (fun h => by subst h; exact hc.2) hv hr he hn fun a' w' S' μ' h1 hm1 h2 h3 h4 => ?_
   exact hQ a' w' S' μ' h1 (fun _ hk => hm1 rfl hk) (h2.prune live) h3 h4
  | seq x y _ _ =>
   intro c' env H e env' H' k hc hv w S μ a Q hr he hn hQ
   have nobad : c' ≠ .bad := by rintro rfl; simp [ev] at hv
   cases c' <;> first | (exact Bool.noConfusion hc) | (exact absurd rfl nobad) | skip
   rename_i x' y'
   simp only [chkC,Bool.and_eq_true] at hc
   refine Go.wp_seq ?_
   simp only [ev] at hv
   split at hv
   ·rename_i env1 H1 h1
    refine ihC nt x x' _ _ _ _ _ k hc.1 h1 w S μ a _ hr he hn fun a1 w1 S1 μ1 hrun hm1 he1 hs hd => ?_
    exact ihC nt y y' _ _ _ _ _ k hc.2 hv w1 S1 μ1 a1 Q hrun.rel he1 (by omega) (hQ.trans hrun (fun h hk => hm1 (by simp only [Code.still,Bool.and_eq_true] at h; exact h.1) hk) (fun h => by simp only [Code.still,Bool.and_eq_true] at h; exact h.2) hs hd)
   ·rename_i hno
    refine ihC nt x x' _ _ _ _ _ k hc.1 hv w S μ a _ hr he hn ?_
    have hQ := hQ.of (st' := x'.still k) (fun h => by simp only [Code.still,Bool.and_eq_true] at h; exact h.1)
    cases e with
    | nrm => exact absurd hv (hno _ _)
    | ex i => exact hQ
    | ret => exact hQ
  | cond g x y _ _ =>
   intro c' env H e env' H' k hc hv w S μ a Q hr he hn hQ
   have nobad : c' ≠ .bad := by rintro rfl; simp [ev] at hv
   cases c' <;> first | (exact Bool.noConfusion hc) | (exact absurd rfl nobad) | skip
   rename_i g' x' y'
   simp only [chkC,Bool.and_eq_true] at hc
   have hg := he.arg hc.1.1
   simp only [ev] at hv
   split at hv
   ·rename_i t ht
    rw [ht] at hg
    refine Go.wp_cond hg.bool_inv ?_
    cases t with
    | true => exact ihC nt x x' _ _ _ _ _ k hc.1.2 hv w S μ a Q hr he hn (hQ.of fun h => by simp only [Code.still,Bool.and_eq_true] at h; exact h.1)
    | false => exact ihC nt y y' _ _ _ _ _ k hc.2 hv w S μ a Q hr he hn (hQ.of fun h => by simp only [Code.still,Bool.and_eq_true] at h; exact h.2)
   ·cases hv
  | block id x _ =>
   intro c' env H e env' H' k hc hv w S μ a Q hr he hn hQ
   have nobad : c' ≠ .bad := by rintro rfl; simp [ev] at hv
   cases c' <;> first | (exact Bool.noConfusion hc) | (exact absurd rfl nobad) | skip
   rename_i live id' x'
   simp only [chkC,Bool.and_eq_true,beq_iff_eq] at hc
   obtain ⟨rfl,hc⟩ := hc
   refine Go.wp_block ?_
   simp only [ev] at hv
   split at hv
   ·rename_i env1 H1 h1
    simp only [Option.some.injEq,Prod.mk.injEq] at hv
    obtain ⟨rfl,rfl,rfl⟩ := hv
    exact ihC nt x x' _ _ _ _ _ k hc h1 w S μ a _ hr he hn fun a1 w1 S1 μ1 hrun hm1 he1 hs hd => hQ a1 w1 S1 μ1 hrun hm1 (he1.prune live) hs hd
   ·rename_i i env1 H1 h1
    refine ihC nt x x' _ _ _ _ _ k hc h1 w S μ a _ hr he hn fun a1 w1 S1 μ1 hrun hm1 he1 hs hd => ?_
    simp only [exitOf,Go.Exit.inBlock]
    split at hv
    ·rename_i hi
     simp only [Option.some.injEq,Prod.mk.injEq] at hv
     obtain ⟨rfl,rfl,rfl⟩ := hv
     rw [if_pos hi]
     exact hQ a1 w1 S1 μ1 hrun hm1 (he1.prune live) hs hd
    ·rename_i hi
     simp only [Option.some.injEq,Prod.mk.injEq] at hv
     obtain ⟨rfl,rfl,rfl⟩ := hv
     rw [if_neg hi]
     exact hQ a1 w1 S1 μ1 hrun hm1 he1 hs hd
   ·rename_i h1 h2
    refine ihC nt x x' _ _ _ _ _ k hc hv w S μ a _ hr he hn fun a1 w1 S1 μ1 hrun hm1 he1 hs hd => ?_
    cases e with
    | nrm => exact absurd hv (h1 _ _)
    | ex i => exact absurd hv (h2 _ _ _)
    | ret => exact hQ a1 w1 S1 μ1 hrun hm1 he1 hs hd
  | loop x _ =>
   intro c' env H e env' H' k hc hv w S μ a Q hr he hn hQ
   have nobad : c' ≠ .bad := by rintro rfl; simp [ev] at hv
   cases c' <;> first | (exact Bool.noConfusion hc) | (exact absurd rfl nobad) | skip
   rename_i live gc x'
   simp only [chkC] at hc
   exact Go.wp_loop_rounds (n + 1) (hR nt x x' live gc env H e env' H' k hc hv w S μ a Q hr he hn hQ)
  | rangeFunc f ps x y => intro c' _ _ _ _ _ _ hc hv; cases c' <;> first | (exact Bool.noConfusion hc) | (simp [ev] at hv)
  | goto l => intro c' _ _ _ _ _ _ hc hv; cases c' <;> first | (exact Bool.noConfusion hc) | (simp [ev] at hv)
  | refuse s => intro c' _ _ _ _ _ _ hc hv; cases c' <;> first | (exact Bool.noConfusion hc) | (simp [ev] at hv)
end
end Ab
namespace Ab
open Go (IntKind BinOp UnOp World Value Addr Obj undef maxLen Program TypeId Oper Op Operand Act Sem Next Result execOp Builtin Calls Ending Exit)
def chkRes (P : Program) : List Go.ResultVar → List RV → Bool
 | [], [] => true
 | .tmp t :: rs, .slot t' :: ss => t == t' && chkRes P rs ss
 | .cell t T :: rs, .cell t' sz ag :: ss => t == t' && aggT P T ag && sizeT P T sz && chkRes P rs ss
 | _, _ => false
def chkF (P : Program) (N : Names) (g : Go.Func) (fn : AFn) : Bool :=
 decide (fn.np ≤ g.ntmps) && chkRes P g.results.toList fn.results && !(g.name == "runtime.NumGoroutine") && (match g.body with | some c => chkC P N g.ntmps c fn.body | none => false)
def PrimOk (Γ : Ctx) (N : Names) (P : Program) (f : Nat) (g : List PV → Option (List PV)) : Prop :=
 ∀ ps rs, g ps = some rs → ∀ w S us, (∀ g, S g → g < w.heap.size) → GlRel Γ N w S → All2 (fun u p => RelP N.fn w S p u) us ps →
  Does P (N.fn f) us.toArray w (fun v w' => ∃ vs S', v = resVal vs ∧ Grows w w' ∧ (∀ g, S g → S' g) ∧ (∀ g, S' g → g < w'.heap.size) ∧ (∀ g, S' g → S g ∨ w.heap.size ≤ g) ∧
   All2 (fun u p => RelP N.fn w' S' p u) vs rs)
def FreshOk (Γ : Ctx) (N : Names) (P : Program) (f : Nat) (g : List PV → Option (Nat × List PV)) : Prop :=
 ∀ ps r, g ps = some r → ∀ w S us, (∀ g, S g → g < w.heap.size) → GlRel Γ N w S → All2 (fun u p => RelP N.fn w S p u) us ps →
  Does P (N.fn f) us.toArray w (fun v w' => ∃ cells, Grows w w' ∧ RowAt w' v r.1 r.2.length cells ∧ v.oneCell' = true ∧ FlatRel N.fn w' S r.1 r.2 cells ∧ ∀ g, blkOf v = some g → w.heap.size ≤ g)
def UpdOk (Γ : Ctx) (N : Names) (P : Program) (f : Nat) (g : List PV → Nat → List PV → Option (List PV)) : Prop :=
 ∀ ps sz xs ys, g ps sz xs = some ys → ys.length = xs.length → xs.length ≤ lim → ∀ w S u us cells, (∀ g, S g → g < w.heap.size) → GlRel Γ N w S → RowAt w u sz xs.length cells → FlatRel N.fn w S sz xs cells →
  (∀ g, blkOf u = some g → ¬ S g ∧ g < w.heap.size) → All2 (fun u p => RelP N.fn w S p u) us ps →
  Does P (N.fn f) (u :: us).toArray w (fun v w' => v = resVal [] ∧ w'.os = w.os ∧ w'.tape = w.tape ∧ w'.output = w.output ∧ w.heap.size ≤ w'.heap.size ∧ (∀ b, b < w.heap.size → blkOf u ≠ some b → w'.heap[b]? = w.heap[b]?) ∧
   ∃ cells', RowAt w' u sz ys.length cells' ∧ FlatRel N.fn w' S sz ys cells')
def LookOk (Γ : Ctx) (N : Names) (P : Program) (f : Nat) (g : List AV → Heap → Option (List PV)) : Prop :=
 ∀ args H rs, g args H = some rs → ∀ w S μ us, Rel N.fn w S μ H → GlRel Γ N w S → All2 (fun u x => RelV N.fn w S μ H x u) us args →
  Does P (N.fn f) us.toArray w (fun v w' => ∃ vs S', v = resVal vs ∧ Grows w w' ∧ (∀ g, S g → S' g) ∧ (∀ g, S' g → g < w'.heap.size) ∧ (∀ g, S' g → S g ∨ w.heap.size ≤ g) ∧
   All2 (fun u p => RelP N.fn w' S' p u) vs rs)
def LookcOk (Γ : Ctx) (N : Names) (P : Program) (f c : Nat) (q : List AV → Heap → Option (List (List PV × Int))) (g : List AV → Heap → Option (List PV)) : Prop :=
 ∀ args H ps rs, q args H = some ps → g args H = some rs →
  (∀ p ∈ ps, ∀ w T us, (∀ g, T g → g < w.heap.size) → GlRel Γ N w T → All2 (fun u p => RelP N.fn w T p u) us p.1 → Does P (N.fn c) us.toArray w (fun v w' => v = .int .i64 p.2 ∧ Grows w w')) →
  ∀ w S μ us, Rel N.fn w S μ H → GlRel Γ N w S → All2 (fun u x => RelV N.fn w S μ H x u) us args →
  Does P (N.fn f) us.toArray w (fun v w' => ∃ vs S', v = resVal vs ∧ Grows w w' ∧ (∀ g, S g → S' g) ∧ (∀ g, S' g → g < w'.heap.size) ∧ (∀ g, S' g → S g ∨ w.heap.size ≤ g) ∧
   All2 (fun u p => RelP N.fn w' S' p u) vs rs)
def HiOk (Γ : Ctx) (N : Names) (P : Program) (f : Nat) (g : HiFn) : Prop :=
 ∀ cal, CallOk Γ N P cal → ∀ args H rs H', g.go cal args H = some (rs, H') → ∀ w S μ us, Rel N.fn w S μ H → GlRel Γ N w S → All2 (fun u x => RelV N.fn w S μ H x u) us args →
  Does P (N.fn f) us.toArray w (fun v w' => ∃ vs S' μ', v = resVal vs ∧ Run N.fn w S μ H w' S' μ' H' ∧ Moves μ H μ' H' ∧ All2 (fun u x => RelV N.fn w' S' μ' H' x u) vs rs)
structure Known (Γ : Ctx) (N : Names) (P : Program) : Prop where
 mixed : P.follows .mixedOrders = true
 code : ∀ f fn, Γ.fn f = some (.code fn) → ∃ g, P.funcs[N.fn f]? = some g ∧ chkF P N g fn = true
 prim : ∀ f g, Γ.fn f = some (.prim g) → PrimOk Γ N P f g
 fresh : ∀ f g, Γ.fn f = some (.fresh g) → FreshOk Γ N P f g
 upd : ∀ f g, Γ.fn f = some (.upd g) → UpdOk Γ N P f g
 look : ∀ f g, Γ.fn f = some (.look g) → LookOk Γ N P f g
 lookc : ∀ f c q g, Γ.fn f = some (.lookc c q g) → LookcOk Γ N P f c q g
 hi : ∀ f g, Γ.fn f = some (.hi g) → HiOk Γ N P f g
section
variable {Γ : Ctx} {N : Names} {P : Program}
theorem look_init : ∀ {args : List AV} {t : Nat}, look (initEnv args) t = (args[t]?).getD .any := by
 have key : ∀ (args : List AV) (k t : Nat), look ((args.zipIdx k).map fun x => (x.2, x.1)) t = if k ≤ t then (args[t - k]?).getD .any else .any := by
  intro args
  induction args with
  | nil => intro k t; simp [look]
  | cons x r ih =>
   intro k t
   simp only [List.zipIdx_cons, List.map_cons, look]
   by_cases h : k = t
   ·subst h; simp
   ·rw [if_neg h, ih]
    by_cases hk : k ≤ t
    ·rw [if_pos (by omega), if_pos hk, show t - k = (t - (k + 1)) + 1 by omega]; simp
    ·rw [if_neg (by omega), if_neg hk]
 intro args t
 have := key args 0 t
 simpa [initEnv] using this
def resOf (tmps : Array Value) : Go.ResultVar → Sem Value
 | .tmp t => pure (tmps.getD t undef)
 | .cell x t => do Go.loadVar t (← Go.asAddr (tmps.getD x undef))
theorem loadA_ptr {w : World} {S : Nat → Prop} {μ : Nat → Value} {H : Heap} {x : Value} {x' v : AV} {sz : Nat} {ag : Bool} (_hr : Rel N.fn w S μ H) (hx : RelV N.fn w S μ H x' x) (hv : loadA H sz ag x' = some v) : ∃ ad, x = .pointer (some ad) := by
 unfold loadA at hv
 split at hv
 ·cases hx with
  | p _ _ hx => cases hx with
   | ptr cells ad => exact ⟨ad, rfl⟩
 ·cases hx with
  | bx _ _ g _ _ _ h => exact ⟨_, h⟩
 ·rename_i id n i off
  obtain ⟨r, hb, hv⟩ := Option.bind_eq_some_iff.1 hv
  obtain ⟨y, hy, hv⟩ := Option.bind_eq_some_iff.1 hv
  obtain ⟨f, hb, hn⟩ := rowOf_spec hb
  have hi : i < n := by rw [← hn]; exact (List.getElem?_eq_some_iff.1 hy).1
  cases hx with
  | el _ _ _ _ _ hl h hone =>
  obtain ⟨_, h4⟩ := h f _ _ hb
  obtain ⟨g, cap, h5, rfl⟩ := (h4 hn.symm).1 hi
  exact ⟨_, rfl⟩
 ·cases hv
theorem results_sound {w : World} {S : Nat → Prop} {μ : Nat → Value} {H : Heap} {a : Act} {env : Env} (hrel : Rel N.fn w S μ H) (he : Env.Rel Γ N w S μ H (look env) a) : ∀ {rs : List Go.ResultVar} {ss : List RV} {vs : List AV}, chkRes P rs ss = true → mapO (RV.get env H) ss = some vs →
  ∃ us, (rs.mapM (resOf a.tmps)).run P w = .ok us w ∧ All2 (fun u x => RelV N.fn w S μ H x u) us vs
 | [], [], vs, _, h => by
  simp only [mapO, Option.some.injEq] at h; subst h
  exact ⟨[], by simp, trivial⟩
 | .tmp t :: rs, .slot t' :: ss, vs, hc, h => by
  simp only [chkRes, Bool.and_eq_true, beq_iff_eq] at hc
  obtain ⟨rfl, hc⟩ := hc
  simp only [mapO, RV.get] at h
  split at h
  ·rename_i xs hxs
   simp only [Option.some.injEq] at h; subst h
   obtain ⟨us, h1, h2⟩ := results_sound hrel he hc hxs
   refine ⟨a.tmps.getD t undef :: us, ?_, he.env t, h2⟩
   simp only [List.mapM_cons, resOf, Go.Sem.run_bind, Go.Sem.run_pure, Go.Result.andThen_ok, h1]
  ·cases h
 | .cell t T :: rs, .cell t' sz ag :: ss, vs, hc, h => by
  simp only [chkRes, Bool.and_eq_true, beq_iff_eq] at hc
  obtain ⟨⟨⟨rfl, hc1⟩, hc2⟩, hc⟩ := hc
  simp only [mapO, RV.get] at h
  split at h
  ·rename_i x hx
   split at h
   ·rename_i xs hxs
    simp only [Option.some.injEq] at h; subst h
    obtain ⟨us, h1, h2⟩ := results_sound hrel he hc hxs
    obtain ⟨ad, had⟩ := loadA_ptr hrel (he.env t) hx
    obtain ⟨u, h3, h4⟩ := q_load (P := P) hrel (aggT_spec hc1) (sizeT_spec hc2) (he.env t) hx
    rw [had] at h3
    have h3 : (Go.loadVar T ad).run P w = .ok u w := by simpa [Go.Instr.loadAt, Go.Instr.sureAddr] using h3
    refine ⟨u :: us, ?_, h4, h2⟩
    simp only [List.mapM_cons, resOf, had, Go.asAddr, Go.Sem.run_bind, Go.Sem.run_pure, Go.Result.andThen_ok, h3, h1]
   ·cases h
  ·cases h
 | .cell _ _ :: _, .slot _ :: _, _, hc, _ => by simp [chkRes] at hc
 | .tmp _ :: _, .cell _ _ _ :: _, _, hc, _ => by simp [chkRes] at hc
 | [], _ :: _, _, hc, _ => by simp [chkRes] at hc
 | .tmp _ :: _, [], _, hc, _ => by simp [chkRes] at hc
 | .cell _ _ :: _, [], _, hc, _ => by simp [chkRes] at hc
theorem run_results {fn : Go.Func} {tmps : Array Value} {w : World} {us : List Value}
  (h : (fn.results.toList.mapM (resOf tmps)).run P w = .ok us w) :
  (Go.results fn tmps).run P w = .ok (resVal us) w := by
 have e : Go.results fn tmps = (do let vs ← fn.results.mapM (resOf tmps); pure (if h : vs.size = 1 then vs[0] else .tuple vs)) := rfl
 rw [e, Array.mapM_eq_mapM_toList]
 simp only [Go.Sem.run_bind, h, Go.Result.andThen_ok, bind_assoc, map_eq_pure_bind, pure_bind, Go.Sem.run_pure]
 match us with
 | [] => simp [resVal]
 | [x] => simp [resVal]
 | x :: y :: r => simp [resVal]
def plainCall (Γ : Ctx) (n : Nat) : Nat → List AV → Heap → Option (List AV × Heap) := fun f args H =>
 match Γ.fn f with
 | some (.lookc _ _ _) => none
 | some (.hi _) => none
 | _ => callOf Γ (ev Γ n) f args H
theorem plain_ok (K : Known Γ N P) (n : Nat) (ih : ∀ m, m < n → CallOk Γ N P (callOf Γ (ev Γ m))) : CallOk Γ N P (plainCall Γ n) := by
  intro f args H rs H' hc
  have hno : ∀ c q g, Γ.fn f ≠ some (.lookc c q g) := by
   intro c q g e
   unfold plainCall at hc
   rw [e] at hc
   cases hc
  have hnh : ∀ g, Γ.fn f ≠ some (.hi g) := by
   intro g e
   unfold plainCall at hc
   rw [e] at hc
   cases hc
  replace hc : callOf Γ (ev Γ n) f args H = some (rs, H') := by
   unfold plainCall at hc
   split at hc
   ·cases hc
   ·cases hc
   ·exact hc
  have hcode := (code_both (Γ := Γ) (N := N) (P := P) K.mixed n ih).1
  unfold callOf at hc
  split at hc
  ·rename_i g hg
   split at hc
   ·rename_i ps hps
    split at hc
    ·rename_i qs hqs
     simp only [Option.some.injEq, Prod.mk.injEq] at hc
     obtain ⟨rfl, rfl⟩ := hc
     have h2 := K.prim f g hg ps qs hqs
     refine fun w S μ us hr hgl ha => (h2 w S us hr.lt hgl ?_).mono ?_
     ·have := pures_spec hps
      subst this
      have ha := ha.get
      refine .of_get (by simpa using ha.1) fun j x y hx hy => ?_
      exact (ha.2 j x (.p y) hx (by simp [hy])).p_inv
     ·rintro e w' ⟨vs, S', rfl, hg, g1, g2, g3, hv⟩
      exact ⟨vs, S', μ, rfl, (Step.grow hr hg g1 g2 g3).run, fun _ => .refl, All2.map_right (hv.imp fun u p h => .p _ _ h)⟩
    ·cases hc
   ·cases hc
  ·rename_i g hg
   split at hc
   rotate_left
   ·cases hc
   rename_i ps hps
   split at hc
   rotate_left
   ·cases hc
   rename_i r hgr
   split at hc
   rotate_left
   ·cases hc
   rename_i h0
   simp only [Option.some.injEq, Prod.mk.injEq] at hc
   obtain ⟨rfl, rfl⟩ := hc
   refine fun w S μ us hr hgl ha => (K.fresh f g hg ps r hgr w S us hr.lt hgl ?_).mono ?_
   ·have := pures_spec hps
    subst this
    have ha := ha.get
    refine .of_get (by simpa using ha.1) fun j x y hx hy => ?_
    exact (ha.2 j x (.p y) hx (by simp [hy])).p_inv
   ·rintro e w' ⟨cells, hgw, hrow, hone, hfl, hn⟩
    obtain ⟨μ', s1, s2⟩ := step_newrow hr hgw h0.1 h0.2 hrow hfl hn
    exact ⟨[e], S, μ', rfl, s1.run, fun _ => s1.moves, s2, trivial⟩
  ·rename_i g hg
   split at hc
   rotate_left
   ·cases hc
   rename_i id n args
   split at hc
   rotate_left
   ·cases hc
   rename_i sz xs hb
   split at hc
   rotate_left
   ·cases hc
   rename_i hxn
   split at hc
   rotate_left
   ·cases hc
   rename_i ps hps
   split at hc
   rotate_left
   ·cases hc
   rename_i ys hys
   split at hc
   rotate_left
   ·cases hc
   rename_i hyl
   simp only [Option.some.injEq, Prod.mk.injEq] at hc
   obtain ⟨rfl, rfl⟩ := hc
   intro w S μ us hr hgl ha
   match us, ha with
   | u :: us, ⟨hu, ha⟩ =>
   have eu : u = μ id := by
    cases hu with
    | own _ _ _ _ h _ => exact (h _ _ _ hb).2 hxn.symm
   subst eu
   obtain ⟨h0, hlim, cells, hrow, hx1, hx2, _⟩ := hr.blk id _ hb
   refine (K.upd f g hg ps sz xs ys hys hyl hlim w S (μ id) us cells hr.lt hgl hrow ⟨hx1, hx2⟩ (fun b hbk => ⟨hr.apart b (alive_iff.2 ⟨id, _, hb, .inr ⟨sz, xs, rfl⟩, hbk⟩), hr.blk_lt hb hbk⟩) ?_).mono ?_
   ·have := pures_spec hps
    subst this
    have ha := ha.get
    refine .of_get (by simpa using ha.1) fun j x y hx hy => ?_
    exact (ha.2 j x (.p y) hx (by simp [hy])).p_inv
   ·rintro e w' ⟨rfl, q1, q2, q3, q4, q5, cells', q6, q7⟩
    have hm : Moves μ H (upd μ id (μ id)) (H.set id (.row false sz ys)) := moves_set_row hb (by omega) (fun _ => rfl)
    have hs : Step N.fn w S μ H w' S (upd μ id (μ id)) (H.set id (.row false sz ys)) :=
     Step.set hr hb (.inr ⟨sz, xs, rfl⟩) q1 q2 q3 q4 (fun b h1 h2 => q5 b h1 h2) hm ⟨h0, by omega, cells', by rw [upd_same]; exact q6, q7.1, q7.2, by simp⟩ (fun b hbk => .inl hbk)
    exact ⟨[], S, _, rfl, hs.run, fun _ => hs.moves, trivial⟩
  ·rename_i g hg
   split at hc
   ·rename_i qs hqs
    simp only [Option.some.injEq, Prod.mk.injEq] at hc
    obtain ⟨rfl, rfl⟩ := hc
    have h2 := K.look f g hg args H qs hqs
    refine fun w S μ us hr hgl ha => (h2 w S μ us hr hgl ha).mono ?_
    rintro e w' ⟨vs, S', rfl, hg, g1, g2, g3, hv⟩
    exact ⟨vs, S', μ, rfl, (Step.grow hr hg g1 g2 g3).run, fun _ => .refl, All2.map_right (hv.imp fun u p h => .p _ _ h)⟩
   ·cases hc
  ·rename_i c q g hg
   exact absurd hg (hno c q g)
  ·rename_i g hg
   exact absurd hg (hnh g)
  ·rename_i fn hf
   obtain ⟨g, hg, hchk⟩ := K.code f fn hf
   simp only [chkF, Bool.and_eq_true, decide_eq_true_eq] at hchk
   obtain ⟨⟨⟨c1, c2⟩, c3⟩, c4⟩ := hchk
   split at c4
   rotate_left
   ·cases c4
   rename_i body hbody
   split at hc
   rotate_left
   ·cases hc
   rename_i hlen
   have henter : Enters P (N.fn f) := fun us w => by
    have hnm : (g.name == "runtime.NumGoroutine") = false := by simpa using c3
    simp only [beq_eq_false_iff_ne, ne_eq] at hnm
    simp [Go.callFunc, hg, hnm, hbody]
   intro w S μ us hr hgl ha
   refine .inl ⟨henter _ _, Go.calls_of_wp hg hbody ?_⟩
   have hul : us.length = args.length := ha.get.1
   have he0 : Env.Rel Γ N w S μ H (look (initEnv args)) { tmps := us.toArray ++ Array.replicate (g.ntmps - us.toArray.size) undef, defers := [] } := by
    refine ⟨fun t => ?_, hgl⟩
    rw [look_init]
    rcases Nat.lt_or_ge t args.length with h | h
    ·rw [List.getElem?_eq_getElem h, Option.getD_some]
     have := ha.get.2 t (us[t]'(by omega)) args[t] (List.getElem?_eq_getElem _) (List.getElem?_eq_getElem _)
     have e : (us.toArray ++ Array.replicate (g.ntmps - us.toArray.size) undef).getD t undef = us[t]'(by omega) := by
      rw [Array.getD_eq_getD_getElem?, Array.getElem?_append_left (by simp; omega)]
      simp [List.getElem?_eq_getElem (show t < us.length by omega)]
     rw [e]; exact this
    ·rw [List.getElem?_eq_none h, Option.getD_none]; exact .any _
   split at hc
   ·cases hc
   ·rename_i ex env' H1 hno hev
    split at hc
    ·rename_i vs hvs
     simp only [Option.some.injEq, Prod.mk.injEq] at hc
     obtain ⟨rfl, rfl⟩ := hc
     refine hcode g.ntmps body fn.body (initEnv args) H ex env' H1 H.length c4 hev w S μ _ _ hr he0 (by simp; omega) fun a' w' S' μ' hrun hmv he' hs hd => ?_
     have hmv : stillF Γ H.length f = true → Moves μ H μ' H1 := fun h => (hmv (by simpa [stillF, hf] using h) (Nat.le_refl _)).toMoves
     obtain ⟨us', h1, h2⟩ := results_sound hrun.rel he' c2 hvs
     have h3 := run_results h1
     cases ex with
     | nrm => exact ⟨hd, _, h3, _, rfl, us', S', μ', rfl, hrun, hmv, h2⟩
     | ret => exact ⟨hd, _, h3, _, rfl, us', S', μ', rfl, hrun, hmv, h2⟩
     | ex i => exact (hno i rfl).elim
    ·cases hc
   ·cases hc
  ·cases hc
theorem runI_plain {n c : Nat} {asX : List PV} {m : Int} (h : runI Γ (ev Γ n) c asX = some m) : ∃ H', plainCall Γ n c (asX.map .p) [] = some ([.p (.int .i64 m)], H') := by
 unfold runI at h
 split at h
 ·rename_i fn hf
  split at h
  ·rename_i hl
   split at h
   ·cases h
   ·rename_i x env' H' hno ho
    split at h
    ·rename_i k hk
     simp only [Option.some.injEq] at h
     subst h
     refine ⟨H', ?_⟩
     unfold plainCall
     rw [hf]
     simp only
     unfold callOf
     rw [hf]
     simp only [hl, if_true, ho]
     cases x with
     | nrm => simp only [hk]
     | ret => simp only [hk]
     | ex i => exact (hno i rfl).elim
    ·cases h
   ·cases h
  ·cases h
 ·cases h
theorem runIs_mem {n c : Nat} : ∀ {ps : List (List PV × Int)}, runIs Γ (ev Γ n) c ps = true → ∀ p ∈ ps, runI Γ (ev Γ n) c p.1 = some p.2
 | [], _, p, hp => by simp at hp
 | x :: r, h, p, hp => by
  simp only [runIs, Bool.and_eq_true, beq_iff_eq] at h
  rcases List.mem_cons.1 hp with rfl | hp
  ·exact h.1
  ·exact runIs_mem h.2 p hp
theorem callC_plain {n f : Nat} {args : List AV} {H : Heap} {r : List AV × Heap} (h : callC Γ (ev Γ n) f args H = some r) : plainCall Γ n f args H = some r := by
 unfold callC at h
 unfold plainCall
 cases e : Γ.fn f with
 | none => rw [e] at h; cases h
 | some x =>
  rw [e] at h
  cases x with
  | code fn => simp only at h ⊢; unfold callOf; rw [e]; exact h
  | prim g => simp only at h ⊢; unfold callOf; rw [e]; exact h
  | _ => cases h
theorem all_ok (K : Known Γ N P) : ∀ n, CallOk Γ N P (callOf Γ (ev Γ n)) := by
 intro n
 induction n using Nat.strongRecOn with
 | _ n ih =>
  have hp := plain_ok K n ih
  intro f args H rs H' hc
  by_cases hl : ∃ c q g, Γ.fn f = some (.lookc c q g)
  ·obtain ⟨c, q, g, hf⟩ := hl
   unfold callOf at hc
   rw [hf] at hc
   simp only at hc
   split at hc
   rotate_left
   ·cases hc
   rename_i ps hps
   split at hc
   rotate_left
   ·cases hc
   rename_i qs hqs
   split at hc
   rotate_left
   ·cases hc
   rename_i hruns
   simp only [Option.some.injEq, Prod.mk.injEq] at hc
   obtain ⟨rfl, rfl⟩ := hc
   have h2 := K.lookc f c q g hf args H ps qs hps hqs fun p hpm w T us hT hgl ha => by
    obtain ⟨H', hpl⟩ := runI_plain (runIs_mem hruns p hpm)
    refine (pure_call hp hT hgl ha hpl (rs := [.int .i64 p.2]) rfl).mono ?_
    rintro v w' ⟨vs, rfl, hg, hvs⟩
    match vs, hvs with
    | [v], ⟨hv, _⟩ => exact ⟨hv.int_inv, hg⟩
   refine fun w S μ us hr hgl ha => (h2 w S μ us hr hgl ha).mono ?_
   rintro e w' ⟨vs, S', rfl, hg, g1, g2, g3, hv⟩
   exact ⟨vs, S', μ, rfl, (Step.grow hr hg g1 g2 g3).run, fun _ => .refl, All2.map_right (hv.imp fun u p h => .p _ _ h)⟩
  ·by_cases hh : ∃ g, Γ.fn f = some (.hi g)
   ·obtain ⟨g, hf⟩ := hh
    unfold callOf at hc
    rw [hf] at hc
    refine fun w S μ us hr hgl ha => (K.hi f g hf _ (fun f args H rs H' hc => hp f args H rs H' (callC_plain hc)) args H rs H' hc w S μ us hr hgl ha).mono ?_
    rintro v w' ⟨vs, S', μ', h1, h2, h3, h4⟩
    exact ⟨vs, S', μ', h1, h2, fun _ => h3, h4⟩
   refine hp f args H rs H' ?_
   unfold plainCall
   split
   ·rename_i c q g e
    exact absurd ⟨c, q, g, e⟩ hl
   ·rename_i g e
    exact absurd ⟨g, e⟩ hh
   ·exact hc
theorem run_sound (K : Known Γ N P) {n f : Nat} {ps rs : List PV} {r : List AV × Heap} {us : List Value} {w : World} {T : Nat → Prop} (hT : ∀ g, T g → g < w.heap.size) (hgl : GlRel Γ N w T)
  (ha : All2 (fun u p => RelP N.fn w T p u) us ps) (hc : callOf Γ (ev Γ n) f (ps.map .p) [] = some r) (hrs : mapO (reify r.2 4) r.1 = some rs) :
  Does P (N.fn f) us.toArray w (fun v w' => ∃ vs, v = resVal vs ∧ Grows w w' ∧
   All2 (fun u p => RelP N.fn w' (fun g => T g ∨ (w.heap.size ≤ g ∧ g < w'.heap.size)) p u) vs rs) :=
 pure_call (all_ok K n) hT hgl ha hc hrs
end
end Ab
namespace Ab
open Go (IntKind BinOp UnOp World Value Addr Obj undef maxLen Program TypeId Oper Op Operand Act Sem Next Result execOp Builtin Calls Ending Exit)
def RowFor (P : Program) (f : Nat) (e : Array Value → Sem Value) : Prop :=
 ∃ fn, P.funcs[f]? = some fn ∧ (fn.name == "runtime.NumGoroutine") = false ∧ fn.body.isNone = true ∧ Go.Extern.findNext fn = none ∧ Go.Extern.find fn = some e
theorem RowFor.does {P : Program} {f : Nat} {e : Array Value → Sem Value} (h : RowFor P f e) {us : Array Value} {w w' : World} {v : Value} {R : Value → World → Prop} (hrun : (e us).run P w = .ok v w') (hR : R v w') : Does P f us w R := by
 obtain ⟨fn, h1, h2, h3, h4, h5⟩ := h
 refine .inr ⟨v, w', ?_, hR⟩
 simp only [beq_eq_false_iff_ne, ne_eq] at h2
 have h3 := Option.isNone_iff_eq_none.1 h3
 simp [Go.callFunc, h1, h2, h3, h4, h5, hrun, Go.mark, Sem.run]
theorem ixB_eq (s : List UInt8) (c : UInt8) : Go.Lib.indexByte s c = ixB s c := by
 induction s with
 | nil => rfl
 | cons b l ih => simp only [Go.Lib.indexByte, ixB, ih]
section
variable {Γ : Ctx} {N : Names} {P : Program} {f : Nat}
theorem prim_indexByte (h : RowFor P (N.fn f) Go.Extern.BytealgIndexByte.indexByte) : PrimOk Γ N P f indexByteG := by
 intro ps rs hg w S us hS hgl ha
 unfold indexByteG at hg
 split at hg
 rotate_left
 ·cases hg
 rename_i s c
 simp only [Option.some.injEq] at hg
 subst hg
 match us, ha with
 | [u1, u2], ⟨h1, h2, _⟩ =>
  rw [h1.str_inv, h2.int_inv]
  rw [← ixB_eq]
  exact h.does (w' := w) (Go.Lib.run_indexByteString ⟨s.toArray⟩ c w) ⟨[.int .i64 (Go.Lib.indexByte s c.toNat.toUInt8)], S, rfl, .refl w, fun _ h => h, hS, fun _ h => .inl h, .int _ _, trivial⟩
theorem prim_count (h : RowFor P (N.fn f) Go.Extern.BytealgCount.count) : PrimOk Γ N P f countG := by
 intro ps rs hg w S us hS hgl ha
 unfold countG at hg
 split at hg
 rotate_left
 ·cases hg
 rename_i s c
 simp only [Option.some.injEq] at hg
 subst hg
 match us, ha with
 | [u1, u2], ⟨h1, h2, _⟩ =>
  rw [h1.str_inv, h2.int_inv]
  exact h.does (w' := w) (Go.Lib.run_countString ⟨s.toArray⟩ c w) ⟨[.int .i64 (s.count c.toNat.toUInt8 : Nat)], S, rfl, .refl w, fun _ h => h, hS, fun _ h => .inl h, .int _ _, trivial⟩
end
end Ab
namespace Ab
open Go (IntKind BinOp UnOp World Value Addr Obj undef maxLen Program TypeId Oper Op Operand Act Sem Next Result execOp Builtin Calls Ending Exit)
open Go.RowKit
structure JoinOk (P : Program) (f : Nat) : Prop where
 enters : Enters P f
 none : ∀ (a : Option Addr) (c : Nat) (sep : ByteArray) (w : World),Calls P f #[.slice a 0 c,.string sep] w fun e w' => e = .returned (.string ⟨#[]⟩) ∧ w' = w
 some : ∀ (bk o c : Nat) (xs : List ByteArray) (sep : ByteArray) (w : World),(∀ (j : Nat) x,xs[j]? = some x → w.cell? ⟨bk,o + j,.none⟩ = .some (.string x)) → bk < w.heap.size → xs.length ≤ 140737488355328 → xs.length ≤ c →
  (Go.Lib.join (xs.map (·.data.toList)) sep.data.toList).length ≤ 140737488355328 →
  Calls P f #[.slice (.some ⟨bk,o,.none⟩) xs.length c,.string sep] w fun e w' => e = .returned (.string ⟨(Go.Lib.join (xs.map (·.data.toList)) sep.data.toList).toArray⟩) ∧ Below w.heap.size w w'
theorem joinB_eq (sep : List UInt8) : ∀ l : List (List UInt8),Go.Lib.join l sep = joinB sep l
 | [] => rfl
 | [a] => by simp [Go.Lib.join,joinB,List.intercalate]
 | a :: b :: r => by
  have := joinB_eq sep (b :: r)
  simp only [Go.Lib.join,joinB,List.intercalate,List.intersperse,List.flatten_cons] at this ⊢
  rw [← this,List.append_assoc]
end Ab
namespace Ab
open Go (IntKind BinOp UnOp World Value Addr Obj undef maxLen Program TypeId Oper Op Operand Act Sem Next Result execOp Builtin Calls Ending Exit)
open Go.RowKit
theorem index_cons (c a : UInt8) (l : List UInt8) : Go.Lib.index (c :: l) [a] = if c = a then 0 else if Go.Lib.index l [a] == -1 then -1 else Go.Lib.index l [a] + 1 := by
 by_cases h : c = a
 ·subst h; simp [Go.Lib.index,List.isPrefixOf]
 ·rw [if_neg h]
  simp only [Go.Lib.index,List.isPrefixOf,Bool.and_true]
  rw [if_neg (by simpa using Ne.symm h)]
theorem replaceK_one (a b : UInt8) : ∀ (s : List UInt8) (k : Nat),s.count a ≤ k → Go.Lib.replaceK [a] [b] k s = replB a b s
 | [],0,_ => rfl
 | [],k + 1,_ => by simp [Go.Lib.replaceK,Go.Lib.index,replB]
 | c :: l,k,hk => by
  by_cases h : c = a
  ·subst h
   cases k with
   | zero => simp at hk
   | succ k =>
    have ih := replaceK_one c b l k (by simpa using hk)
    rw [Go.Lib.replaceK_hit [c] [b] k (c :: l) 0 (by rw [index_cons]; simp)]
    simp only [List.take_zero,List.nil_append,List.length_singleton,Nat.zero_add,List.drop_succ_cons,List.drop_zero,ih]
    simp [replB]
  ·have hc : l.count a ≤ k := by rwa [List.count_cons_of_ne h] at hk
   have ih := replaceK_one a b l k hc
   have e : Go.Lib.replaceK [a] [b] k (c :: l) = c :: Go.Lib.replaceK [a] [b] k l := by
    cases k with
    | zero => rfl
    | succ k =>
     rcases Go.Lib.index_spec l [a] with ⟨hi,_⟩ | ⟨i,hi,_⟩
     ·simp only [Go.Lib.replaceK,index_cons,if_neg h,hi]; simp
     ·rw [Go.Lib.replaceK_hit [a] [b] k (c :: l) (i + 1) (by rw [index_cons,if_neg h,hi,if_neg (by simp)]; simp),Go.Lib.replaceK_hit [a] [b] k l i hi]
      simp []
   rw [e,ih]
   simp [replB,h]
theorem replaceAll_one (a b : UInt8) (s : List UInt8) : Go.Lib.replaceAll s [a] [b] = replB a b s := by
 unfold Go.Lib.replaceAll Go.Lib.replace
 by_cases h : a = b
 ·subst h
  rw [if_pos (by simp)]
  unfold replB
  conv => lhs; rw [← List.map_id s]
  apply List.map_congr_left
  intro c _
  by_cases hc : c = a <;> simp [hc]
 ·rw [if_neg (by simpa using h)]
  have e : Go.Lib.replaceNum s [a] (-1) = s.count a := by
   unfold Go.Lib.replaceNum
   rw [if_pos (.inl (by omega)),Go.Lib.count_one]
  rw [e]
  exact replaceK_one a b s _ (Nat.le_refl _)
structure ReplOk (P : Program) (f g : Nat) : Prop where
 enters : Enters P f
 all : ∀ (s old new : ByteArray) (m : Int) (w : World),s.size < 4294967281 → w.cell? ⟨g,0,none⟩ = some (.int .i64 m) → 1 ≤ old.size → s.size + Go.Lib.countB s old * new.size ≤ 140737488355328 →
  Calls P f #[.string s,.string old,.string new] w fun e w' => e = .returned (.string ⟨(Go.Lib.replaceAll s.data.toList old.data.toList new.data.toList).toArray⟩) ∧ Below w.heap.size w w'
theorem prim_repl {Γ : Ctx} {N : Names} {P : Program} {f gv : Nat} (hgi : gv ∈ Γ.gi) (h : ReplOk P (N.fn f) (N.gl gv)) : PrimOk Γ N P f replG := by
 intro ps rs hg w S us hS hgl ha
 unfold replG at hg
 split at hg
 rotate_left
 ·cases hg
 rename_i s a b
 simp only [Option.ite_none_right_eq_some,Option.some.injEq] at hg
 obtain ⟨hl,rfl⟩ := hg
 match us,ha with
 | [u1,u2,u3],⟨h1,h2,h3,_⟩ =>
  rw [h1.str_inv,h2.str_inv,h3.str_inv]
  obtain ⟨_,m,hm⟩ := hgl.ints gv hgi
  have hs : (⟨s.toArray⟩ : ByteArray).size = s.length := by simp [ByteArray.size]
  have hc : Go.Lib.countB ⟨s.toArray⟩ ⟨#[a]⟩ ≤ s.length + 1 := Go.Lib.count_le s [a]
  refine .inl ⟨h.enters _ _,(h.all ⟨s.toArray⟩ ⟨#[a]⟩ ⟨#[b]⟩ m w (by rw [hs]; omega) hm (by simp [ByteArray.size]) ?_).mono ?_⟩
  ·have e1 : (⟨#[b]⟩ : ByteArray).size = 1 := by simp [ByteArray.size]
   rw [hs,e1]; omega
  ·rintro e w' ⟨rfl,hw⟩
   have e2 : Go.Lib.replaceAll (⟨s.toArray⟩ : ByteArray).data.toList (⟨#[a]⟩ : ByteArray).data.toList (⟨#[b]⟩ : ByteArray).data.toList = replB a b s := replaceAll_one a b s
   rw [e2]
   exact ⟨_,rfl,[.string ⟨(replB a b s).toArray⟩],S,rfl,⟨hw.os,hw.tape,hw.output,hw.size,fun g hg => hw.block g hg⟩,fun _ h => h,fun g hg => Nat.lt_of_lt_of_le (hS g hg) hw.size,fun _ h => .inl h,.str _,trivial⟩
structure BJoinOk (P : Program) (f : Nat) : Prop where
 enters : Enters P f
 one : ∀ (b o c : Nat) (ad0 : Addr) (c0 : Nat) (l0 : List UInt8) (sv : Value) (w : World),w.cell? ⟨b,o,none⟩ = some (.slice (some ad0) l0.length c0) →
  (∀ (i : Nat) x,l0[i]? = some x → w.cell? (ad0.add i) = some (.int .u8 (x.toNat : Int))) → 0 < l0.length → l0.length ≤ 140737488355328 →
  Calls P f #[.slice (some ⟨b,o,none⟩) 1 c,sv] w fun e w' => ∃ v',e = .returned v' ∧ Go.Lib.FreshBytes w.heap.size w' v' l0 ∧ Below w.heap.size w w'
 oneE : ∀ (b o c : Nat) (p0 : Option Addr) (c0 : Nat) (sv : Value) (w : World),w.cell? ⟨b,o,none⟩ = some (.slice p0 0 c0) →
  Calls P f #[.slice (some ⟨b,o,none⟩) 1 c,sv] w fun e w' => e = .returned (.slice none 0 0) ∧ w' = w
 many : ∀ (b o n c : Nat) (vs : List Value) (ls : List (List UInt8)) (sv : Value) (sep : List UInt8) (w : World),ls.length = n → 2 ≤ n → Go.Lib.PartsAt w ⟨b,o,none⟩ vs ls → n ≤ c → Go.Lib.HoldsBytes w sv sep →
  n ≤ 140737488355328 → Go.Lib.lens ls + sep.length * (n - 1) ≤ 140737488355328 →
  Calls P f #[.slice (some ⟨b,o,none⟩) n c,sv] w fun e w' => ∃ v',e = .returned v' ∧ Go.Lib.FreshBytes w.heap.size w' v' (Go.Lib.join ls sep) ∧ Below w.heap.size w w'
theorem byteIn_spec : ∀ {xs : List PV} {l : List UInt8},byteIn xs = some l → xs = byteP l
 | [],l,h => by simp only [byteIn,Option.some.injEq] at h; subst h; rfl
 | x :: xs,l,h => by
  unfold byteIn at h
  split at h
  ·rename_i e; cases e
  ·rename_i n r e
   cases e
   simp only [Option.ite_none_right_eq_some,Option.map_eq_some_iff] at h
   obtain ⟨⟨h0,h1⟩,l',h2,rfl⟩ := h
   rw [byteIn_spec h2]
   simp only [byteP,List.map_cons,List.cons.injEq,and_true,PV.int.injEq,true_and]
   rw [UInt8.toNat_ofNat']
   omega
  ·cases h
theorem rowsIn_spec : ∀ {xs : List PV} {ls : List (List UInt8)},rowsIn xs = some ls → xs.length = ls.length ∧ ∀ (i : Nat) l,ls[i]? = some l → ∃ k,xs[i]? = some (.sl k 1 (byteP l))
 | [],ls,h => by simp only [rowsIn,Option.some.injEq] at h; subst h; simp
 | x :: xs,ls,h => by
  unfold rowsIn at h
  split at h
  ·rename_i e; cases e
  ·rename_i k ys r e
   cases e
   split at h
   rotate_left
   ·cases h
   rename_i l hl
   obtain ⟨ls',h2,rfl⟩ := Option.map_eq_some_iff.1 h
   obtain ⟨h3,h4⟩ := rowsIn_spec h2
   refine ⟨by simp [h3],fun i l' hi => ?_⟩
   cases i with
   | zero => simp only [List.getElem?_cons_zero,Option.some.injEq] at hi; subst hi; exact ⟨k,by rw [byteIn_spec hl]; rfl⟩
   | succ i => simpa using h4 i l' (by simpa using hi)
  ·cases h
theorem joinB_nil : ∀ ls : List (List UInt8),joinB [] ls = ls.flatten
 | [] => rfl
 | [a] => by simp [joinB]
 | a :: b :: r => by simp only [joinB,joinB_nil (b :: r)]; simp
theorem lens_flatten (ls : List (List UInt8)) : Go.Lib.lens ls = ls.flatten.length := by
 induction ls with
 | nil => rfl
 | cons l r ih => rw [Go.Lib.lens_cons,ih]; simp
theorem fresh_bytes {ν : Nat → Nat} {w w' : World} {v : Value} {l : List UInt8} {S : Nat → Prop} (hf : Go.Lib.FreshBytes w.heap.size w' v l) (hS : ∀ g,S g → g < w.heap.size) (hsz : w.heap.size ≤ w'.heap.size) :
  ∃ S',(∀ g,S g → S' g) ∧ (∀ g,S' g → g < w'.heap.size) ∧ (∀ g,S' g → S g ∨ w.heap.size ≤ g) ∧ RelP ν w' S' (.sl .any 1 (byteP l)) v := by
 obtain ⟨g,cap,zs,rfl,hB,hlc,hcap,hzl,hzr,hb,hcell,_⟩ := hf
 have hlen : (byteP l).length = l.length := by simp [byteP]
 refine ⟨fun b => S b ∨ (b = g ∧ g < w'.heap.size),fun _ h => .inl h,fun b h => ?_,fun b h => ?_,?_⟩
 ·rcases h with h | ⟨rfl,h⟩
  ·exact Nat.lt_of_lt_of_le (hS b h) hsz
  ·exact h
 ·rcases h with h | ⟨rfl,h⟩
  ·exact .inl h
  ·exact .inr hB
 ·have hr := RelP.sl (ν := ν) (w := w') (S := fun b => S b ∨ (b = g ∧ g < w'.heap.size)) .any 1 (byteP l) (some ⟨g,0,none⟩) cap (fun i _ => .int .u8 (zs.getD i 0)) (by rw [hlen]; exact hlc) hcap
   (fun x hx => by obtain ⟨b,_,rfl⟩ := List.mem_map.1 hx; simp [PV.cells,PV.one]) (by simp) (by simp)
   (fun hne => ⟨_,rfl,.inr ⟨rfl,by
    have hpos : 0 < cap := by
     have : 0 < (byteP l).length := List.length_pos_iff.2 hne
     omega
    have := hcell 0 hpos
    unfold World.cell? at this
    split at this
    ·rename_i h; exact (Array.getElem?_eq_some_iff.1 h).1
    all_goals (first | cases this | skip)
    all_goals (exfalso; simp_all)⟩⟩)
   (fun ad had i x j c hx hc => by
    cases had
    have hi : i < l.length := by rw [← hlen]; exact (List.getElem?_eq_some_iff.1 hx).1
    have hj : j = 0 := by
     have := (List.getElem?_eq_some_iff.1 hc).1
     obtain ⟨b,_,rfl⟩ := List.mem_map.1 (List.mem_of_getElem? hx)
     simpa [PV.cells] using this
    subst hj
    rw [Go.Addr.add_lit]
    simpa using hcell i (by omega))
   (fun i x j c hx hc => by
    have hi : i < l.length := by rw [← hlen]; exact (List.getElem?_eq_some_iff.1 hx).1
    simp only [byteP,List.getElem?_map,Option.map_eq_some_iff] at hx
    obtain ⟨b,hb',rfl⟩ := hx
    have hj : j = 0 := by
     have := (List.getElem?_eq_some_iff.1 hc).1
     simpa [PV.cells] using this
    subst hj
    simp only [PV.cells,List.getElem?_cons_zero,Option.some.injEq] at hc
    subst hc
    have hz : (zs.getD i 0) = (b.toNat : Int) := by
     rw [← hb] at hb'
     simp only [Go.Lib.bytesOf,List.getElem?_map,Option.map_eq_some_iff] at hb'
     obtain ⟨z,hz1,hz2⟩ := hb'
     rw [List.getElem?_take,if_pos hi] at hz1
     have hz3 := hzr z (List.mem_of_getElem? hz1)
     rw [List.getD_eq_getElem?_getD,hz1,Option.getD_some,← hz2,UInt8.toNat_ofNat']
     omega
    rw [hz]
    exact .int _ _)
  rw [hlen] at hr
  exact hr
theorem prim_bjoin {Γ : Ctx} {N : Names} {P : Program} {f : Nat} (h : BJoinOk P (N.fn f)) : PrimOk Γ N P f bjoinG := by
 intro ps rs hg w S us hS hgl ha
 unfold bjoinG at hg
 split at hg
 rotate_left
 ·cases hg
 rename_i kk xs
 split at hg
 rotate_left
 ·cases hg
 rename_i ls hl
 simp only [Option.ite_none_right_eq_some,Option.some.injEq] at hg
 obtain ⟨⟨hb1,hb2,hb3⟩,rfl⟩ := hg
 obtain ⟨hx1,hx2⟩ := rowsIn_spec hl
 match us,ha with
 | [u1,u2],⟨h1,h2,_⟩ =>
  have e2 : u2 = .slice none 0 0 := by
   cases h2 with
   | sl _ _ _ a cap ws k1 k2 k3 k4 k5 k6 k7 k8 =>
    obtain ⟨_,rfl,rfl⟩ := k4 (.inl rfl)
    rfl
  subst e2
  generalize hxs : xs = xs' at h1
  cases h1 with
  | sl _ _ _ a cap ws k1 k2 k3 k4 k5 k6 k7 k8 =>
  subst hxs
  have hne : xs ≠ [] := by rintro rfl; simp at hx1; omega
  obtain ⟨ad,rfl,hs⟩ := k6 hne
  obtain ⟨bk,o,sp⟩ := ad
  have part : ∀ (i : Nat) l,ls[i]? = some l → w.cell? ((⟨bk,o,sp⟩ : Addr).add i) = some (ws i 0) ∧ ∃ k,RelP N.fn w S (.sl k 1 (byteP l)) (ws i 0) := by
   intro i l hi
   obtain ⟨k,hxi⟩ := hx2 i l hi
   have := k7 _ rfl i _ 0 _ hxi rfl
   simp only [Nat.mul_one,Nat.add_zero] at this
   exact ⟨this,k,k8 i _ 0 _ hxi rfl⟩
  have hold : ∀ (i : Nat) l,ls[i]? = some l → Go.Lib.HoldsBytes w (ws i 0) l := by
   intro i l hi
   obtain ⟨_,k,hr⟩ := part i l hi
   generalize ws i 0 = u at hr
   cases hr with
   | sl _ _ _ a c us q1 q2 q3 q4 q5 q6 q7 q8 =>
    have hlen : (byteP l).length = l.length := by simp [byteP]
    refine ⟨a,c,by rw [hlen],fun ea => ?_,fun ad ead j x hj => ?_⟩
    ·have := (q4 (.inr ea)).1
     simpa [byteP] using this
    ·have e1 : (byteP l)[j]? = some (.int .u8 x.toNat) := by simp [byteP,hj]
     have := q7 ad ead j _ 0 _ e1 rfl
     rw [(q8 j _ 0 _ e1 rfl).int_inv] at this
     simpa using this
  have hsp : sp = none := by
   match ls,hb3 with
   | l :: r,_ =>
    have := (part 0 l rfl).1
    simp only [Addr.add,if_true] at this
    unfold World.cell? at this
    cases sp with
    | none => rfl
    | some x =>
     obtain ⟨_,k,hr⟩ := part 0 l rfl
     split at this <;> simp_all
  subst hsp
  refine .inl ⟨h.enters _ _,?_⟩
  have fin : ∀ (v : Value) (w' : World),Go.Lib.FreshBytes w.heap.size w' v ls.flatten → Below w.heap.size w w' → ∃ vs S',v = resVal vs ∧ Grows w w' ∧ (∀ g,S g → S' g) ∧ (∀ g,S' g → g < w'.heap.size) ∧ (∀ g,S' g → S g ∨ w.heap.size ≤ g) ∧
    All2 (fun u p => RelP N.fn w' S' p u) vs [.sl .any 1 (byteP ls.flatten)] := by
   intro v w' hf hw
   obtain ⟨S',s1,s2,s3,s4⟩ := fresh_bytes (ν := N.fn) hf hS hw.size
   exact ⟨[v],S',rfl,⟨hw.os,hw.tape,hw.output,hw.size,fun g hg => hw.block g hg⟩,s1,s2,s3,s4,trivial⟩
  rcases Nat.lt_or_ge 1 ls.length with hm | hm
  ·rw [hx1]
   refine (h.many bk o ls.length cap ((List.range ls.length).map fun i => ws i 0) ls _ [] w rfl hm ⟨by simp,fun i v hv => ?_,fun i v l hv hi => ?_⟩ (by rw [← hx1]; exact k1) ⟨none,0,rfl,fun _ => rfl,by simp⟩ (by omega) (by rw [lens_flatten]; simp only [List.length_nil,Nat.zero_mul,Nat.add_zero]; omega)).mono ?_
   ·rw [List.getElem?_map,Option.map_eq_some_iff] at hv
    obtain ⟨j,hj,rfl⟩ := hv
    obtain ⟨hlt,hj⟩ := List.getElem?_eq_some_iff.1 hj
    simp only [List.length_range] at hlt
    have : j = i := by simpa using hj.symm
    subst this
    exact (part j _ (List.getElem?_eq_getElem hlt)).1
   ·rw [List.getElem?_map,Option.map_eq_some_iff] at hv
    obtain ⟨j,hj,rfl⟩ := hv
    obtain ⟨hlt,hj⟩ := List.getElem?_eq_some_iff.1 hj
    have : j = i := by simpa using hj.symm
    subst this
    exact hold j l hi
   ·rintro e w' ⟨v,rfl,hf,hw⟩
    rw [joinB_eq,joinB_nil] at hf
    exact ⟨v,rfl,fin v w' hf hw⟩
  ·obtain ⟨l,rfl⟩ : ∃ l,ls = [l] := by
    match ls,hb3,hm with
    | [l],_,_ => exact ⟨l,rfl⟩
   ·have e1 : xs.length = 1 := hx1
    rw [e1]
    have hfl : [l].flatten = l := by simp
    obtain ⟨hc0,_⟩ := part 0 l rfl
    obtain ⟨p,c0,hv0,hp0,hp1⟩ := hold 0 l rfl
    simp only [Addr.add,if_true] at hc0
    rw [hv0] at hc0
    rw [hfl] at fin ⊢
    by_cases h0 : l = []
    ·subst h0
     refine (h.oneE bk o cap p c0 _ w hc0).mono ?_
     rintro e w' ⟨rfl,rfl⟩
     exact ⟨_,rfl,[.slice none 0 0],S,rfl,.refl _,fun _ h => h,hS,fun _ h => .inl h,.sl .any 1 [] none 0 (fun _ _ => undef) (Nat.le_refl _) (Nat.zero_le _) (by simp) (by simp) (by simp) (by simp) (by simp) (by simp),trivial⟩
    ·cases p with
     | none => exact absurd (hp0 rfl) h0
     | some ad0 =>
      have hpos : 0 < l.length := List.length_pos_iff.2 h0
      refine (h.one bk o cap ad0 c0 l _ w hc0 (fun i x hi => hp1 ad0 rfl i x hi) hpos (by simp at hb1; omega)).mono ?_
      rintro e w' ⟨v,rfl,hf,hw⟩
      exact ⟨v,rfl,fin v w' hf hw⟩
structure MCloneOk (P : Program) (f : Nat) : Prop where
 enters : Enters P f
 some : ∀ (b : Nat) (es : Array Go.MapEntry) (clock : Nat) (w : World),w.heap[b]? = some (.map es clock) → Calls P f #[.map (some b)] w fun e w' => e = .returned (.map (some w.heap.size)) ∧ w' = w.alloc (.map es clock)
 none : ∀ (w : World),Calls P f #[.map none] w fun e w' => e = .returned (.map none) ∧ w' = w
theorem hi_mclone {Γ : Ctx} {N : Names} {P : Program} {f : Nat} (h : MCloneOk P (N.fn f)) : HiOk Γ N P f mcloneH := by
 intro cal _ args H rs H' hg w S μ us hr hgl ha
 simp only [mcloneH,mcloneG] at hg
 split at hg
 ·rename_i id
  obtain ⟨es,hes,he⟩ := Option.map_eq_some_iff.1 hg
  simp only [Prod.mk.injEq] at he
  obtain ⟨rfl,rfl⟩ := he
  match us,ha with
  | [u],⟨hu,_⟩ =>
  obtain ⟨g,rfl,hl,hg'⟩ := hu.mp_inv
  have hb := mapOf_spec hes
  have e0 := hg' _ hb
  have hbr := hr.blk id _ hb
  refine .inl ⟨h.enters _ _,?_⟩
  obtain ⟨g',arr,clock,e1,e2,hst,e3⟩ := hr.map_of hes
  rw [e0] at e1
  cases e1
  refine (h.some g arr clock w e2).mono ?_
  rintro e w' ⟨rfl,rfl⟩
  have hgr := Grows.alloc w (.map arr clock)
  have hpush : Step N.fn w S μ H (w.alloc (.map arr clock)) S (upd μ H.length (.pointer (some ⟨w.heap.size,0,none⟩))) (H ++ [.box (mapCells es)]) := by
   refine Step.push hr hgr ⟨w.heap.size,upd_same,.inr (.inr ?_)⟩ (fun g hg => by simp only [blkOf,Option.some.injEq] at hg; omega)
   obtain ⟨g2,h1,⟨cs,t,h2,h3,h4,h5⟩ | ⟨s,pos,h2,h3⟩ | ⟨es',arr',clock',h2,h3,hst',h4,h5⟩⟩ := hbr
   ·exact absurd (h4 .nov (by simp [mapCells])) (by simp [AV.one])
   ·simp [mapCells,iterCells] at h2
   ·rw [e0] at h1
    cases h1
    rw [h3] at e2
    cases e2
    have ee : es' = es := by
     have := congrArg (fun x => mapIn (x.drop 2)) h2
     simp only [mapCells,List.drop_succ_cons,List.drop_zero,flat_mapIn,Option.some.injEq] at this
     exact this.symm
    subst ee
    refine ⟨es',_,_,rfl,Go.heap_alloc_new w _,hst',h4,fun j k v hj => ?_⟩
    obtain ⟨e,q1,q2,q3,q4⟩ := h5 j k v hj
    exact ⟨e,q1,q2.keep (fun _ h => h) (hr.keepS hgr),q3,q4.keep (fun _ h => h) (hr.keepS hgr) moves_push⟩
  exact ⟨_,rfl,[.map (some w.heap.size)],S,_,rfl,hpush.run,hpush.moves,.mp _ w.heap.size _ (by simp) (fun _ _ => upd_same) rfl,trivial⟩
 ·simp only [Option.some.injEq,Prod.mk.injEq] at hg
  obtain ⟨rfl,rfl⟩ := hg
  match us,ha with
  | [u],⟨hu,_⟩ =>
  have e : u = .map Option.none := by
   cases hu with
   | p _ _ hu => cases hu; rfl
  subst e
  refine .inl ⟨h.enters _ _,(h.none w).mono ?_⟩
  rintro e w' ⟨rfl,rfl⟩
  exact ⟨_,rfl,[.map Option.none],S,μ,rfl,.refl hr,.refl,.p _ _ .nilmap,trivial⟩
 ·cases hg
end Ab
